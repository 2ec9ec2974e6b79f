/-
  Part of the proof; what its functions and lemmas say stands in the text.
-/
import Derived.Test.YtnbafdmlfpmfkaaGreatDoorWhB
import Derived.Test.YtnbafdmlfpmfkaaGreatDoorEvE
import Derived.Test.YtnbafdmlfpmfkaaGreatDoorR23
set_option linter.unusedSimpArgs false
set_option linter.unusedVariables false
namespace Go.L23
open Go.Ev Go.Proofs Go.RowKit
open Go.Wh
theorem mask48 : Snd 183 maskS := by
 refine Sound.join (execFn_sound (ann := fun _ => []) TableOK.nil mixed Tryz.func183 (by kernel_rfl) 50) fun ds d h => ?_
 split at h
 ·rename_i t
  cases h
  kernel_rfl
 ·cases h
noncomputable def oneS : Ev.Spec := joined fun
 | [.u8 31#8, .i .i64 t, .u64 x] => some (.tup [.u64 (ifF (mayF t [x]) (~~~x &&& maskF t)), .i .i64 (errF (mayF t [x]))])
 | _ => none
theorem one47 : Snd 132 oneS := by
 refine Sound.join (execFn_sound (ann := fun _ => []) (TableOK.cons t_may (TableOK.cons t_mask TableOK.nil)) mixed Tryz.func132 (by kernel_rfl) 50) fun ds d h => ?_
 split at h
 ·rename_i t x
  cases h
  have nf : ex [(75, mayS), (77, maskOS)] (fun _ => []) Tryz.f132 [.u8 31#8, .i .i64 t, .u64 x] some =
   if (!mayF t [x]) = true then some (D.tup [D.u64 0#64, D.i IntKind.i64 2])
   else (if okW t = true then some (D.tup [D.u64 (~~~x &&& maskF t), D.i IntKind.i64 0]) else none) := by kernel_rfl
  refine nf.trans ?_
  cases hm : mayF t [x]
  ·rfl
  ·have : okW t = true := by
    unfold mayF at hm
    rw [Bool.and_eq_true] at hm
    exact hm.1
   rw [this]; rfl
 ·cases h
def isF (t : Int) (x : BitVec 64) : Bool := okW t && decide (x ≤ maskF t)
noncomputable def isS : Ev.Spec := joined fun | [.i .i64 t, .u64 x] => some (.bool (isF t x)) | _ => none
theorem is40 : Snd 80 isS := by
 refine Sound.join (execFn_sound (ann := fun _ => []) (TableOK.cons one47 TableOK.nil) mixed Tryz.func80 (by kernel_rfl) 50) fun ds d h => ?_
 split at h
 ·rename_i t x
  cases h
  have nf : ex [(132, oneS)] (fun _ => []) Tryz.f80 [.i .i64 t, .u64 x] some = some (.bool (errF (mayF t [x]) == 0)) := by kernel_rfl
  refine nf.trans ?_
  have : isF t x = mayF t [x] := by simp [isF, mayF]
  rw [this]
  cases mayF t [x] <;> rfl
 ·cases h
def shW (n : Int) : Nat := (BitVec.ofInt 64 n).toNat
def getF (x y : BitVec 64) (t i : Int) : BitVec 64 := if 64 ≤ IntKind.i64.wrap (i * t) then y >>> shW (IntKind.i64.wrap (IntKind.i64.wrap (i * t) - 64)) &&& maskF t else x >>> shW (IntKind.i64.wrap (i * t)) &&& maskF t
noncomputable def getS : Ev.Spec := joined fun | [.agg [.u64 x, .u64 y], .i .i64 t, .i .i64 i] => some (.u64 (getF x y t i)) | _ => none
theorem get41 : Snd 99 getS := by
 refine Sound.join (execFn_sound (ann := fun _ => []) (TableOK.cons mask48 TableOK.nil) mixed Tryz.func99 (by kernel_rfl) 50) fun ds d h => ?_
 split at h
 ·rename_i x y t i
  cases h
  have nf : ex [(183, maskS)] (fun _ => []) Tryz.f99 [vec x y, .i .i64 t, .i .i64 i] some = if decide (64 ≤ IntKind.i64.wrap (i * t)) = true then
    some (D.u64 (y >>> shW (IntKind.i64.wrap (IntKind.i64.wrap (i * t) - 64)) &&& maskF t))
   else some (D.u64 (x >>> shW (IntKind.i64.wrap (i * t)) &&& maskF t)) := by kernel_rfl
  refine nf.trans ?_
  unfold getF
  simp only [decide_eq_true_eq]
  split <;> rfl
 ·cases h
def put (x m : BitVec 64) (k : Nat) (z : BitVec 64) : BitVec 64 := x &&& ~~~ (m <<< k) ||| z <<< k
def setF (x y : BitVec 64) (t i : Int) (z : BitVec 64) : BitVec 64 × BitVec 64 :=
 if 64 ≤ IntKind.i64.wrap (i * t) then (x, put y (maskF t) (shW (IntKind.i64.wrap (IntKind.i64.wrap (i * t) - 64))) z) else (put x (maskF t) (shW (IntKind.i64.wrap (i * t))) z, y)
noncomputable def setS : Ev.Spec := joined fun | [.agg [.u64 x, .u64 y], .i .i64 t, .i .i64 i, .u64 z] => some (vec (setF x y t i z).1 (setF x y t i z).2) | _ => none
theorem set43 : Snd 81 setS := by
 refine Sound.join (execFn_sound (ann := fun _ => []) (TableOK.cons mask48 TableOK.nil) mixed Tryz.func81 (by kernel_rfl) 50) fun ds d h => ?_
 split at h
 ·rename_i x y t i z
  cases h
  have nf : ex [(183, maskS)] (fun _ => []) Tryz.f81 [vec x y, .i .i64 t, .i .i64 i, .u64 z] some = if decide (64 ≤ IntKind.i64.wrap (i * t)) = true then
    some (vec x (put y (maskF t) (shW (IntKind.i64.wrap (IntKind.i64.wrap (i * t) - 64))) z))
   else some (vec (put x (maskF t) (shW (IntKind.i64.wrap (i * t))) z) y) := by kernel_rfl
  refine nf.trans ?_
  unfold setF
  simp only [decide_eq_true_eq]
  split <;> rfl
 ·cases h
end Go.L23
namespace Go.L23
open Go.Ev Go.Proofs Go.RowKit Go.Rt
open Go.Wh
def bt (x : BitVec 64) (k : Nat) : BitVec 8 := BitVec.setWidth 8 (x >>> k)
def bytesF (x y : BitVec 64) : List (BitVec 8) := [bt x 0, bt x 8, bt x 16, bt x 24, bt x 32, bt x 40, bt x 48, bt x 56, bt y 0, bt y 8, bt y 16, bt y 24, bt y 32, bt y 40, bt y 48, bt y 56]
noncomputable def bytesS : Ev.Spec := joined fun | [.agg [.u64 x, .u64 y]] => some (.a8 (bytesF x y)) | _ => none
def ann24 : Nat → List Nat := fun | 3 => [1, 2, 3, 5] | _ => []
theorem bt_mask (x : BitVec 64) (k : Nat) : BitVec.setWidth 8 (x >>> k &&& maskF 8) = bt x k := by
 have e : maskF 8 = 255#64 := by decide
 rw [e]
 apply BitVec.eq_of_getLsbD_eq
 intro j hj
 have h255 : (255#8).getLsbD j = true := by
  have : j = 0 ∨ j = 1 ∨ j = 2 ∨ j = 3 ∨ j = 4 ∨ j = 5 ∨ j = 6 ∨ j = 7 := by omega
  rcases this with rfl | rfl | rfl | rfl | rfl | rfl | rfl | rfl <;> decide
 simp [bt, h255]
theorem bytes24 : Snd 203 bytesS := by
 refine Sound.join (execFn_sound (ann := ann24) (TableOK.cons get41 TableOK.nil) mixed Tryz.func203 (by kernel_rfl) 50) fun ds d h => ?_
 split at h
 ·rename_i x y
  cases h
  have nf : ex [(99, getS)] ann24 Tryz.f203 [vec x y] some = some (D.a8 [BitVec.setWidth 8 (x >>> 0 &&& maskF 8), BitVec.setWidth 8 (x >>> 8 &&& maskF 8), BitVec.setWidth 8 (x >>> 16 &&& maskF 8), BitVec.setWidth 8 (x >>> 24 &&& maskF 8),
   BitVec.setWidth 8 (x >>> 32 &&& maskF 8), BitVec.setWidth 8 (x >>> 40 &&& maskF 8), BitVec.setWidth 8 (x >>> 48 &&& maskF 8), BitVec.setWidth 8 (x >>> 56 &&& maskF 8),
   BitVec.setWidth 8 (y >>> 0 &&& maskF 8), BitVec.setWidth 8 (y >>> 8 &&& maskF 8), BitVec.setWidth 8 (y >>> 16 &&& maskF 8), BitVec.setWidth 8 (y >>> 24 &&& maskF 8),
   BitVec.setWidth 8 (y >>> 32 &&& maskF 8), BitVec.setWidth 8 (y >>> 40 &&& maskF 8), BitVec.setWidth 8 (y >>> 48 &&& maskF 8), BitVec.setWidth 8 (y >>> 56 &&& maskF 8)]) := by kernel_rfl
  refine nf.trans ?_
  simp only [bt_mask]
  rfl
 ·cases h
def zx (b : BitVec 8) : BitVec 64 := BitVec.setWidth 64 b
def w8 (b0 b1 b2 b3 b4 b5 b6 b7 : BitVec 8) : BitVec 64 :=
 256#64 * (256#64 * (256#64 * (256#64 * (256#64 * (256#64 * (256#64 * (0#64 + zx b7) + zx b6) + zx b5) + zx b4) + zx b3) + zx b2) + zx b1) + zx b0
noncomputable def ofBytesS : Ev.Spec := joined fun
 | [.a8 [b0, b1, b2, b3, b4, b5, b6, b7, b8, b9, b10, b11, b12, b13, b14, b15]] => some (vec (w8 b0 b1 b2 b3 b4 b5 b6 b7) (w8 b8 b9 b10 b11 b12 b13 b14 b15))
 | _ => none
theorem Sound.two {P : Program} {G : List (Nat × SV)} {f : FuncId} {s : Ev.Spec} {F : List D → Option (Bool × D × D)} (hs : Sound P G f s) (h : ∀ ds b d e, F ds = some (b, d, e) → s ds some = some (if b = true then d else e)) :
  Sound P G f (fun ds K => match F ds with | some (b, d, e) => if b = true then K d else K e | none => none) := by
 intro ds K r hK
 simp only [] at hK
 split at hK
 ·rename_i b d e hF
  obtain ⟨d', h1, h2⟩ := hs ds some _ (h ds b d e hF)
  cases h1
  split at hK
  ·rename_i hb; rw [if_pos hb] at h2; exact ⟨d, hK, h2⟩
  ·rename_i hb; rw [if_neg hb] at h2; exact ⟨e, hK, h2⟩
 ·cases hK
noncomputable def setC : Ev.Spec := fun ds K => match (match ds with
  | [.agg [.u64 x, .u64 y], .i .i64 t, .i .i64 i, .u64 z] => some (decide (64 ≤ IntKind.i64.wrap (i * t)), vec x (put y (maskF t) (shW (IntKind.i64.wrap (IntKind.i64.wrap (i * t) - 64))) z), vec (put x (maskF t) (shW (IntKind.i64.wrap (i * t))) z) y)
  | _ => none : Option (Bool × D × D)) with
 | some (b, d, e) => if b = true then K d else K e
 | none => none
theorem setC43 : Snd 81 setC := by
 refine Sound.two (F := fun ds => match ds with
  | [.agg [.u64 x, .u64 y], .i .i64 t, .i .i64 i, .u64 z] => some (decide (64 ≤ IntKind.i64.wrap (i * t)), vec x (put y (maskF t) (shW (IntKind.i64.wrap (IntKind.i64.wrap (i * t) - 64))) z), vec (put x (maskF t) (shW (IntKind.i64.wrap (i * t))) z) y)
  | _ => none) (execFn_sound (ann := fun _ => []) (TableOK.cons mask48 TableOK.nil) mixed Tryz.func81 (by kernel_rfl) 50) fun ds b d e h => ?_
 split at h
 ·rename_i x y t i z
  cases h
  have nf : ex [(183, maskS)] (fun _ => []) Tryz.f81 [vec x y, .i .i64 t, .i .i64 i, .u64 z] some = if decide (64 ≤ IntKind.i64.wrap (i * t)) = true then
    some (vec x (put y (maskF t) (shW (IntKind.i64.wrap (IntKind.i64.wrap (i * t) - 64))) z))
   else some (vec (put x (maskF t) (shW (IntKind.i64.wrap (i * t))) z) y) := by kernel_rfl
  refine nf.trans ?_
  split
  ·rfl
  ·rfl
 ·cases h
def at8 (b0 b1 b2 b3 b4 b5 b6 b7 : BitVec 8) : Nat → BitVec 64
 | 0 => zx b0 | 1 => zx b1 | 2 => zx b2 | 3 => zx b3 | 4 => zx b4 | 5 => zx b5 | 6 => zx b6 | 7 => zx b7
 | _ => 0#64
theorem low_zx (b : BitVec 8) : BitVec.setWidth 64 (BitVec.setWidth 8 (zx b)) = zx b := by
 apply BitVec.eq_of_toNat_eq
 have := b.isLt
 simp [zx]
section
variable (b0 b1 b2 b3 b4 b5 b6 b7 : BitVec 8)
instance : Rf (at8 b0 b1 b2 b3 b4 b5 b6 b7) (zx b0) := ⟨.low (.atom 0) 8, low_zx _⟩
instance : Rf (at8 b0 b1 b2 b3 b4 b5 b6 b7) (zx b1) := ⟨.low (.atom 1) 8, low_zx _⟩
instance : Rf (at8 b0 b1 b2 b3 b4 b5 b6 b7) (zx b2) := ⟨.low (.atom 2) 8, low_zx _⟩
instance : Rf (at8 b0 b1 b2 b3 b4 b5 b6 b7) (zx b3) := ⟨.low (.atom 3) 8, low_zx _⟩
instance : Rf (at8 b0 b1 b2 b3 b4 b5 b6 b7) (zx b4) := ⟨.low (.atom 4) 8, low_zx _⟩
instance : Rf (at8 b0 b1 b2 b3 b4 b5 b6 b7) (zx b5) := ⟨.low (.atom 5) 8, low_zx _⟩
instance : Rf (at8 b0 b1 b2 b3 b4 b5 b6 b7) (zx b6) := ⟨.low (.atom 6) 8, low_zx _⟩
instance : Rf (at8 b0 b1 b2 b3 b4 b5 b6 b7) (zx b7) := ⟨.low (.atom 7) 8, low_zx _⟩
end
section
variable {ρ : Nat → BitVec 64}
instance (x : BitVec 64) (k : Nat) [r : Rf ρ x] : Rf ρ (zx (bt x k)) := ⟨.low (.shr r.e k) 8, by simp only [RE.sem, r.ok]; rfl⟩
instance (t : Int) : Rf ρ (maskF t) := ⟨.lit (maskF t).toNat, by simp [RE.sem]⟩
instance (x m z : BitVec 64) (k : Nat) [r : Rf ρ x] [s : Rf ρ m] [u : Rf ρ z] : Rf ρ (put x m k z) := ⟨.or (.and r.e (.not (.shl s.e k))) (.shl u.e k), by simp only [RE.sem, r.ok, s.ok, u.ok]; rfl⟩
instance (b0 b1 b2 b3 b4 b5 b6 b7 : BitVec 8) [r0 : Rf ρ (zx b0)] [r1 : Rf ρ (zx b1)] [r2 : Rf ρ (zx b2)] [r3 : Rf ρ (zx b3)] [r4 : Rf ρ (zx b4)] [r5 : Rf ρ (zx b5)] [r6 : Rf ρ (zx b6)] [r7 : Rf ρ (zx b7)] : Rf ρ (w8 b0 b1 b2 b3 b4 b5 b6 b7) :=
 have h : Rf ρ (256#64 * (256#64 * (256#64 * (256#64 * (256#64 * (256#64 * (256#64 * (0#64 + zx b7) + zx b6) + zx b5) + zx b4) + zx b3) + zx b2) + zx b1) + zx b0) := inferInstance
 ⟨h.e, h.ok⟩
end
def puts8 (b0 b1 b2 b3 b4 b5 b6 b7 : BitVec 8) : BitVec 64 :=
 put (put (put (put (put (put (put (put 0#64 (maskF 8) 0 (zx b0)) (maskF 8) 8 (zx b1)) (maskF 8) 16 (zx b2)) (maskF 8) 24 (zx b3)) (maskF 8) 32 (zx b4)) (maskF 8) 40 (zx b5)) (maskF 8) 48 (zx b6)) (maskF 8) 56 (zx b7)
theorem puts8_eq (b0 b1 b2 b3 b4 b5 b6 b7 : BitVec 8) : puts8 b0 b1 b2 b3 b4 b5 b6 b7 = w8 b0 b1 b2 b3 b4 b5 b6 b7 :=
 route (ρ := at8 b0 b1 b2 b3 b4 b5 b6 b7) (a := put (put (put (put (put (put (put (put 0#64 (maskF 8) 0 (zx b0)) (maskF 8) 8 (zx b1)) (maskF 8) 16 (zx b2)) (maskF 8) 24 (zx b3)) (maskF 8) 32 (zx b4)) (maskF 8) 40 (zx b5)) (maskF 8) 48 (zx b6)) (maskF 8) 56 (zx b7)) (by kernel_rfl)
def ann26 : Nat → List Nat := fun | 3 => [2, 3, 6, 7] | _ => []
theorem ofBytes26 : Snd 109 ofBytesS := by
 refine Sound.join (execFn_sound (ann := ann26) (TableOK.cons setC43 TableOK.nil) mixed Tryz.func109 (by kernel_rfl) 50) fun ds d h => ?_
 split at h
 ·rename_i b0 b1 b2 b3 b4 b5 b6 b7 b8 b9 b10 b11 b12 b13 b14 b15
  cases h
  have nf : ex [(81, setC)] ann26 Tryz.f109 [.a8 [b0, b1, b2, b3, b4, b5, b6, b7, b8, b9, b10, b11, b12, b13, b14, b15]] some = some (vec (puts8 b0 b1 b2 b3 b4 b5 b6 b7) (puts8 b8 b9 b10 b11 b12 b13 b14 b15)) := by kernel_rfl
  refine nf.trans ?_
  rw [puts8_eq, puts8_eq]
 ·cases h
end Go.L23
namespace Go.L23
open Go.Ev Go.Proofs Go.RowKit Go.Rt
open Go.Wh
def asm : List (BitVec 8) → BitVec 64
 | [] => 0#64
 | b :: l => 256#64 * asm l + zx b
class RfL (ρ : Nat → BitVec 64) (l : List (BitVec 64)) where
 e : List RE
 ok : e.map (RE.sem ρ) = l
def chkL : List RE → List RE → Bool
 | [], [] => true
 | a :: l, b :: m => chk a b && chkL l m
 | _, _ => false
theorem chkL_ok (ρ : Nat → BitVec 64) : ∀ {l m : List RE}, chkL l m = true → l.map (RE.sem ρ) = m.map (RE.sem ρ)
 | [], [], _ => rfl
 | a :: l, b :: m, h => by
  simp only [chkL, Bool.and_eq_true] at h
  simp only [List.map_cons, chk_ok h.1 ρ, chkL_ok ρ h.2]
 | [], _ :: _, h => by cases h
 | _ :: _, [], h => by cases h
theorem routeL {ρ : Nat → BitVec 64} {a b : List (BitVec 64)} [ra : RfL ρ a] [rb : RfL ρ b] (h : chkL ra.e rb.e = true) : a = b := by
 rw [← ra.ok, ← rb.ok]; exact chkL_ok ρ h
section
variable {ρ : Nat → BitVec 64}
instance : RfL ρ [] := ⟨[], rfl⟩
instance (a : BitVec 64) (l : List (BitVec 64)) [r : Rf ρ a] [s : RfL ρ l] : RfL ρ (a :: l) := ⟨r.e :: s.e, by simp only [List.map_cons, r.ok, s.ok]⟩
instance : Rf ρ (asm []) := ⟨.lit 0, rfl⟩
instance (b : BitVec 8) (l : List (BitVec 8)) [r : Rf ρ (zx b)] [s : Rf ρ (asm l)] : Rf ρ (asm (b :: l)) := ⟨.add (.shl s.e 8) r.e, by simp only [RE.sem, r.ok, s.ok, asm, mul256]⟩
instance (x y : BitVec 64) (t i : Int) [r : Rf ρ x] [s : Rf ρ y] : Rf ρ (getF x y t i) :=
 ⟨if 64 ≤ IntKind.i64.wrap (i * t) then .and (.shr s.e (shW (IntKind.i64.wrap (IntKind.i64.wrap (i * t) - 64)))) (.lit (maskF t).toNat) else .and (.shr r.e (shW (IntKind.i64.wrap (i * t)))) (.lit (maskF t).toNat), by
  unfold getF
  split <;> simp [RE.sem, r.ok, s.ok]⟩
end
def listF (x y : BitVec 64) (w : Int) : List (BitVec 64) := (List.range (128 / w).toNat).map (fun (i : Nat) => getF x y w i)
def vecB (w : Nat) (l : List (BitVec 64)) : List (BitVec 8) := l.flatMap (fun a => (List.range (w / 8)).map (fun k => bt a (8 * k)))
def vecF (w : Int) (l : List (BitVec 64)) : BitVec 64 × BitVec 64 := (asm ((vecB w.toNat l).take 8), asm ((vecB w.toNat l).drop 8))
theorem len_cons {α : Type} {l : List α} {n : Nat} (h : l.length = n + 1) : ∃ a t, l = a :: t ∧ t.length = n := by
 cases l with
 | nil => cases h
 | cons a t => exact ⟨a, t, rfl, by simpa using h⟩
theorem len_nil {α : Type} {l : List α} (h : l.length = 0) : l = [] := List.eq_nil_of_length_eq_zero h
end Go.L23
namespace Go.L23
open Go.Ev Go.Proofs Go.RowKit Go.Rt
open Go.Wh
def okI (t i : Int) : Bool := okW t && decide (0 ≤ i) && decide (i < 128 / t)
theorem okW_ne {t : Int} (h : okW t = true) : t ≠ 0 := by rcases okW_cases h with rfl | rfl | rfl | rfl <;> decide
theorem okW_div {t : Int} (h : okW t = true) : IntKind.i64.wrap (Int.tdiv 128 t) = 128 / t := by rcases okW_cases h with rfl | rfl | rfl | rfl <;> decide
theorem okW_pos {t : Int} (h : okW t = true) : ((128 / t).toNat : Int) = 128 / t := by rcases okW_cases h with rfl | rfl | rfl | rfl <;> decide
theorem isF_zero {t : Int} : isF t 0#64 = okW t := by
 have : 0#64 ≤ maskF t := by rw [BitVec.le_def]; simp
 simp [isF, this]
theorem listF_length (x y : BitVec 64) (w : Int) : (listF x y w).length = (128 / w).toNat := by simp [listF]
theorem listF_get {x y : BitVec 64} {w : Int} {n : Nat} (h : n < (128 / w).toNat) : (listF x y w).getD n 0#64 = getF x y w n := by
 rw [List.getD_eq_getElem?_getD]
 simp [listF, h]
noncomputable def GetS : Ev.Spec := joined fun | [.agg [.u64 x, .u64 y], .i .i64 t, .i .i64 i] => some (.tup [.u64 (ifF (okI t i) (getF x y t i)), .i .i64 (errF (okI t i))]) | _ => none
theorem Get13 : Snd 47 GetS := by
 refine Sound.join (execFn_sound (ann := fun _ => []) (TableOK.cons is40 (TableOK.cons get41 TableOK.nil)) mixed Tryz.func47 (by kernel_rfl) 50) fun ds d h => ?_
 split at h
 ·rename_i x y t i
  cases h
  have nf : ex [(80, isS), (99, getS)] (fun _ => []) Tryz.f47 [vec x y, .i .i64 t, .i .i64 i] some = if (!isF t 0#64) = false then
    if decide (i < 0) = false then
     if t = 0 then none
     else
      if decide (IntKind.i64.wrap (Int.tdiv 128 t) ≤ i) = true then some (D.tup [D.u64 0#64, D.i IntKind.i64 2])
      else some (D.tup [D.u64 (getF x y t i), D.i IntKind.i64 0])
    else some (D.tup [D.u64 0#64, D.i IntKind.i64 2])
   else some (D.tup [D.u64 0#64, D.i IntKind.i64 2]) := by kernel_rfl
  refine nf.trans ?_
  rw [isF_zero]
  cases hw : okW t
  ·simp [okI, hw, ifF, errF]
  ·have h0 := okW_ne hw
   simp only [okI, hw, okW_div hw, if_neg h0]
   by_cases h1 : 0 ≤ i
   ·by_cases h2 : i < 128 / t
    ·have h3 : ¬ i < 0 := by omega
     have h4 : ¬ 128 / t ≤ i := by omega
     simp [h1, h2, h3, h4, ifF, errF]
    ·have h3 : ¬ i < 0 := by omega
     have h4 : 128 / t ≤ i := by omega
     simp [h1, h2, h3, h4, ifF, errF]
   ·have h3 : i < 0 := by omega
    simp [h1, h3, ifF, errF]
 ·cases h
def okS (t i : Int) (z : BitVec 64) : Bool := okI t i && decide (z ≤ maskF t)
noncomputable def SetS : Ev.Spec := joined fun
 | [.agg [.u64 x, .u64 y], .i .i64 t, .i .i64 i, .u64 z] => some (.tup [vec (ifF (okS t i z) (setF x y t i z).1) (ifF (okS t i z) (setF x y t i z).2), .i .i64 (errF (okS t i z))])
 | _ => none
theorem Set15 : Snd 32 SetS := by
 refine Sound.join (execFn_sound (ann := fun _ => []) (TableOK.cons is40 (TableOK.cons set43 TableOK.nil)) mixed Tryz.func32 (by kernel_rfl) 50) fun ds d h => ?_
 split at h
 ·rename_i x y t i z
  cases h
  have nf : ex [(80, isS), (81, setS)] (fun _ => []) Tryz.f32 [vec x y, .i .i64 t, .i .i64 i, .u64 z] some = if (!isF t z) = false then
    if decide (i < 0) = false then
     if t = 0 then none
     else
      if decide (IntKind.i64.wrap (Int.tdiv 128 t) ≤ i) = true then
       some (D.tup [D.agg [D.u64 0#64, D.u64 0#64], D.i IntKind.i64 2])
      else some (D.tup [D.agg [D.u64 (setF x y t i z).fst, D.u64 (setF x y t i z).snd], D.i IntKind.i64 0])
    else some (D.tup [D.agg [D.u64 0#64, D.u64 0#64], D.i IntKind.i64 2])
   else some (D.tup [D.agg [D.u64 0#64, D.u64 0#64], D.i IntKind.i64 2]) := by kernel_rfl
  refine nf.trans ?_
  unfold isF
  cases hw : okW t
  ·simp [okS, okI, hw, ifF, errF]
  ·have h0 := okW_ne hw
   simp only [okS, okI, hw, okW_div hw, if_neg h0, Bool.true_and]
   by_cases hz : z ≤ maskF t
   ·by_cases h1 : 0 ≤ i
    ·by_cases h2 : i < 128 / t
     ·have h3 : ¬ i < 0 := by omega
      have h4 : ¬ 128 / t ≤ i := by omega
      simp [hz, h1, h2, h3, h4, ifF, errF]
     ·have h3 : ¬ i < 0 := by omega
      have h4 : 128 / t ≤ i := by omega
      simp [hz, h1, h2, h3, h4, ifF, errF]
    ·have h3 : i < 0 := by omega
     simp [hz, h1, h3, ifF, errF]
   ·simp [hz, ifF, errF]
 ·cases h
theorem and_fit {t : Int} (h : okW t = true) {z : BitVec 64} (hz : z ≤ maskF t) : z = z &&& maskF t := by
 have e := fit_eq h z
 rw [decide_eq_true hz, beq_iff_eq] at e
 apply BitVec.eq_of_getLsbD_eq
 intro j hj
 have h1 := congrArg (fun y => BitVec.getLsbD y j) e
 simp only [BitVec.getLsbD_and, BitVec.getLsbD_not, hj, decide_true, Bool.true_and, BitVec.getLsbD_zero] at h1
 simp only [BitVec.getLsbD_and]
 cases h2 : z.getLsbD j
 ·rfl
 ·rw [h2, Bool.true_and] at h1
  simpa using h1
section
variable {ρ : Nat → BitVec 64}
instance (x y : BitVec 64) (t i : Int) (z : BitVec 64) [r : Rf ρ x] [Rf ρ z] : Rf ρ (setF x y t i z).1 :=
 ⟨if 64 ≤ IntKind.i64.wrap (i * t) then r.e else (inferInstance : Rf ρ (put x (maskF t) (shW (IntKind.i64.wrap (i * t))) z)).e, by
  unfold setF
  split
  ·exact r.ok
  ·exact (inferInstance : Rf ρ (put x (maskF t) (shW (IntKind.i64.wrap (i * t))) z)).ok⟩
instance (x y : BitVec 64) (t i : Int) (z : BitVec 64) [s : Rf ρ y] [Rf ρ z] : Rf ρ (setF x y t i z).2 :=
 ⟨if 64 ≤ IntKind.i64.wrap (i * t) then (inferInstance : Rf ρ (put y (maskF t) (shW (IntKind.i64.wrap (IntKind.i64.wrap (i * t) - 64))) z)).e else s.e, by
  unfold setF
  split
  ·exact (inferInstance : Rf ρ (put y (maskF t) (shW (IntKind.i64.wrap (IntKind.i64.wrap (i * t) - 64))) z)).ok
  ·exact s.ok⟩
end
theorem rset8_0 (x y z : BitVec 64) : vecF 8 ((listF x y 8).set 0 (z &&& maskF 8)) = setF x y 8 0 (z &&& maskF 8) := by
 have e1 : asm [bt ((z &&& maskF 8)) 0, bt (getF x y 8 1) 0, bt (getF x y 8 2) 0, bt (getF x y 8 3) 0, bt (getF x y 8 4) 0, bt (getF x y 8 5) 0, bt (getF x y 8 6) 0, bt (getF x y 8 7) 0] = (setF x y 8 0 (z &&& maskF 8)).1 := route (ρ := at3 x y z) (by kernel_rfl)
 have e2 : asm [bt (getF x y 8 8) 0, bt (getF x y 8 9) 0, bt (getF x y 8 10) 0, bt (getF x y 8 11) 0, bt (getF x y 8 12) 0, bt (getF x y 8 13) 0, bt (getF x y 8 14) 0, bt (getF x y 8 15) 0] = (setF x y 8 0 (z &&& maskF 8)).2 := route (ρ := at3 x y z) (by kernel_rfl)
 exact Prod.ext (Eq.trans (by kernel_rfl) e1) (Eq.trans (by kernel_rfl) e2)
theorem rset8_1 (x y z : BitVec 64) : vecF 8 ((listF x y 8).set 1 (z &&& maskF 8)) = setF x y 8 1 (z &&& maskF 8) := by
 have e1 : asm [bt (getF x y 8 0) 0, bt ((z &&& maskF 8)) 0, bt (getF x y 8 2) 0, bt (getF x y 8 3) 0, bt (getF x y 8 4) 0, bt (getF x y 8 5) 0, bt (getF x y 8 6) 0, bt (getF x y 8 7) 0] = (setF x y 8 1 (z &&& maskF 8)).1 := route (ρ := at3 x y z) (by kernel_rfl)
 have e2 : asm [bt (getF x y 8 8) 0, bt (getF x y 8 9) 0, bt (getF x y 8 10) 0, bt (getF x y 8 11) 0, bt (getF x y 8 12) 0, bt (getF x y 8 13) 0, bt (getF x y 8 14) 0, bt (getF x y 8 15) 0] = (setF x y 8 1 (z &&& maskF 8)).2 := route (ρ := at3 x y z) (by kernel_rfl)
 exact Prod.ext (Eq.trans (by kernel_rfl) e1) (Eq.trans (by kernel_rfl) e2)
theorem rset8_2 (x y z : BitVec 64) : vecF 8 ((listF x y 8).set 2 (z &&& maskF 8)) = setF x y 8 2 (z &&& maskF 8) := by
 have e1 : asm [bt (getF x y 8 0) 0, bt (getF x y 8 1) 0, bt ((z &&& maskF 8)) 0, bt (getF x y 8 3) 0, bt (getF x y 8 4) 0, bt (getF x y 8 5) 0, bt (getF x y 8 6) 0, bt (getF x y 8 7) 0] = (setF x y 8 2 (z &&& maskF 8)).1 := route (ρ := at3 x y z) (by kernel_rfl)
 have e2 : asm [bt (getF x y 8 8) 0, bt (getF x y 8 9) 0, bt (getF x y 8 10) 0, bt (getF x y 8 11) 0, bt (getF x y 8 12) 0, bt (getF x y 8 13) 0, bt (getF x y 8 14) 0, bt (getF x y 8 15) 0] = (setF x y 8 2 (z &&& maskF 8)).2 := route (ρ := at3 x y z) (by kernel_rfl)
 exact Prod.ext (Eq.trans (by kernel_rfl) e1) (Eq.trans (by kernel_rfl) e2)
theorem rset8_3 (x y z : BitVec 64) : vecF 8 ((listF x y 8).set 3 (z &&& maskF 8)) = setF x y 8 3 (z &&& maskF 8) := by
 have e1 : asm [bt (getF x y 8 0) 0, bt (getF x y 8 1) 0, bt (getF x y 8 2) 0, bt ((z &&& maskF 8)) 0, bt (getF x y 8 4) 0, bt (getF x y 8 5) 0, bt (getF x y 8 6) 0, bt (getF x y 8 7) 0] = (setF x y 8 3 (z &&& maskF 8)).1 := route (ρ := at3 x y z) (by kernel_rfl)
 have e2 : asm [bt (getF x y 8 8) 0, bt (getF x y 8 9) 0, bt (getF x y 8 10) 0, bt (getF x y 8 11) 0, bt (getF x y 8 12) 0, bt (getF x y 8 13) 0, bt (getF x y 8 14) 0, bt (getF x y 8 15) 0] = (setF x y 8 3 (z &&& maskF 8)).2 := route (ρ := at3 x y z) (by kernel_rfl)
 exact Prod.ext (Eq.trans (by kernel_rfl) e1) (Eq.trans (by kernel_rfl) e2)
theorem rset8_4 (x y z : BitVec 64) : vecF 8 ((listF x y 8).set 4 (z &&& maskF 8)) = setF x y 8 4 (z &&& maskF 8) := by
 have e1 : asm [bt (getF x y 8 0) 0, bt (getF x y 8 1) 0, bt (getF x y 8 2) 0, bt (getF x y 8 3) 0, bt ((z &&& maskF 8)) 0, bt (getF x y 8 5) 0, bt (getF x y 8 6) 0, bt (getF x y 8 7) 0] = (setF x y 8 4 (z &&& maskF 8)).1 := route (ρ := at3 x y z) (by kernel_rfl)
 have e2 : asm [bt (getF x y 8 8) 0, bt (getF x y 8 9) 0, bt (getF x y 8 10) 0, bt (getF x y 8 11) 0, bt (getF x y 8 12) 0, bt (getF x y 8 13) 0, bt (getF x y 8 14) 0, bt (getF x y 8 15) 0] = (setF x y 8 4 (z &&& maskF 8)).2 := route (ρ := at3 x y z) (by kernel_rfl)
 exact Prod.ext (Eq.trans (by kernel_rfl) e1) (Eq.trans (by kernel_rfl) e2)
theorem rset8_5 (x y z : BitVec 64) : vecF 8 ((listF x y 8).set 5 (z &&& maskF 8)) = setF x y 8 5 (z &&& maskF 8) := by
 have e1 : asm [bt (getF x y 8 0) 0, bt (getF x y 8 1) 0, bt (getF x y 8 2) 0, bt (getF x y 8 3) 0, bt (getF x y 8 4) 0, bt ((z &&& maskF 8)) 0, bt (getF x y 8 6) 0, bt (getF x y 8 7) 0] = (setF x y 8 5 (z &&& maskF 8)).1 := route (ρ := at3 x y z) (by kernel_rfl)
 have e2 : asm [bt (getF x y 8 8) 0, bt (getF x y 8 9) 0, bt (getF x y 8 10) 0, bt (getF x y 8 11) 0, bt (getF x y 8 12) 0, bt (getF x y 8 13) 0, bt (getF x y 8 14) 0, bt (getF x y 8 15) 0] = (setF x y 8 5 (z &&& maskF 8)).2 := route (ρ := at3 x y z) (by kernel_rfl)
 exact Prod.ext (Eq.trans (by kernel_rfl) e1) (Eq.trans (by kernel_rfl) e2)
theorem rset8_6 (x y z : BitVec 64) : vecF 8 ((listF x y 8).set 6 (z &&& maskF 8)) = setF x y 8 6 (z &&& maskF 8) := by
 have e1 : asm [bt (getF x y 8 0) 0, bt (getF x y 8 1) 0, bt (getF x y 8 2) 0, bt (getF x y 8 3) 0, bt (getF x y 8 4) 0, bt (getF x y 8 5) 0, bt ((z &&& maskF 8)) 0, bt (getF x y 8 7) 0] = (setF x y 8 6 (z &&& maskF 8)).1 := route (ρ := at3 x y z) (by kernel_rfl)
 have e2 : asm [bt (getF x y 8 8) 0, bt (getF x y 8 9) 0, bt (getF x y 8 10) 0, bt (getF x y 8 11) 0, bt (getF x y 8 12) 0, bt (getF x y 8 13) 0, bt (getF x y 8 14) 0, bt (getF x y 8 15) 0] = (setF x y 8 6 (z &&& maskF 8)).2 := route (ρ := at3 x y z) (by kernel_rfl)
 exact Prod.ext (Eq.trans (by kernel_rfl) e1) (Eq.trans (by kernel_rfl) e2)
theorem rset8_7 (x y z : BitVec 64) : vecF 8 ((listF x y 8).set 7 (z &&& maskF 8)) = setF x y 8 7 (z &&& maskF 8) := by
 have e1 : asm [bt (getF x y 8 0) 0, bt (getF x y 8 1) 0, bt (getF x y 8 2) 0, bt (getF x y 8 3) 0, bt (getF x y 8 4) 0, bt (getF x y 8 5) 0, bt (getF x y 8 6) 0, bt ((z &&& maskF 8)) 0] = (setF x y 8 7 (z &&& maskF 8)).1 := route (ρ := at3 x y z) (by kernel_rfl)
 have e2 : asm [bt (getF x y 8 8) 0, bt (getF x y 8 9) 0, bt (getF x y 8 10) 0, bt (getF x y 8 11) 0, bt (getF x y 8 12) 0, bt (getF x y 8 13) 0, bt (getF x y 8 14) 0, bt (getF x y 8 15) 0] = (setF x y 8 7 (z &&& maskF 8)).2 := route (ρ := at3 x y z) (by kernel_rfl)
 exact Prod.ext (Eq.trans (by kernel_rfl) e1) (Eq.trans (by kernel_rfl) e2)
theorem rset8_8 (x y z : BitVec 64) : vecF 8 ((listF x y 8).set 8 (z &&& maskF 8)) = setF x y 8 8 (z &&& maskF 8) := by
 have e1 : asm [bt (getF x y 8 0) 0, bt (getF x y 8 1) 0, bt (getF x y 8 2) 0, bt (getF x y 8 3) 0, bt (getF x y 8 4) 0, bt (getF x y 8 5) 0, bt (getF x y 8 6) 0, bt (getF x y 8 7) 0] = (setF x y 8 8 (z &&& maskF 8)).1 := route (ρ := at3 x y z) (by kernel_rfl)
 have e2 : asm [bt ((z &&& maskF 8)) 0, bt (getF x y 8 9) 0, bt (getF x y 8 10) 0, bt (getF x y 8 11) 0, bt (getF x y 8 12) 0, bt (getF x y 8 13) 0, bt (getF x y 8 14) 0, bt (getF x y 8 15) 0] = (setF x y 8 8 (z &&& maskF 8)).2 := route (ρ := at3 x y z) (by kernel_rfl)
 exact Prod.ext (Eq.trans (by kernel_rfl) e1) (Eq.trans (by kernel_rfl) e2)
theorem rset8_9 (x y z : BitVec 64) : vecF 8 ((listF x y 8).set 9 (z &&& maskF 8)) = setF x y 8 9 (z &&& maskF 8) := by
 have e1 : asm [bt (getF x y 8 0) 0, bt (getF x y 8 1) 0, bt (getF x y 8 2) 0, bt (getF x y 8 3) 0, bt (getF x y 8 4) 0, bt (getF x y 8 5) 0, bt (getF x y 8 6) 0, bt (getF x y 8 7) 0] = (setF x y 8 9 (z &&& maskF 8)).1 := route (ρ := at3 x y z) (by kernel_rfl)
 have e2 : asm [bt (getF x y 8 8) 0, bt ((z &&& maskF 8)) 0, bt (getF x y 8 10) 0, bt (getF x y 8 11) 0, bt (getF x y 8 12) 0, bt (getF x y 8 13) 0, bt (getF x y 8 14) 0, bt (getF x y 8 15) 0] = (setF x y 8 9 (z &&& maskF 8)).2 := route (ρ := at3 x y z) (by kernel_rfl)
 exact Prod.ext (Eq.trans (by kernel_rfl) e1) (Eq.trans (by kernel_rfl) e2)
theorem rset8_10 (x y z : BitVec 64) : vecF 8 ((listF x y 8).set 10 (z &&& maskF 8)) = setF x y 8 10 (z &&& maskF 8) := by
 have e1 : asm [bt (getF x y 8 0) 0, bt (getF x y 8 1) 0, bt (getF x y 8 2) 0, bt (getF x y 8 3) 0, bt (getF x y 8 4) 0, bt (getF x y 8 5) 0, bt (getF x y 8 6) 0, bt (getF x y 8 7) 0] = (setF x y 8 10 (z &&& maskF 8)).1 := route (ρ := at3 x y z) (by kernel_rfl)
 have e2 : asm [bt (getF x y 8 8) 0, bt (getF x y 8 9) 0, bt ((z &&& maskF 8)) 0, bt (getF x y 8 11) 0, bt (getF x y 8 12) 0, bt (getF x y 8 13) 0, bt (getF x y 8 14) 0, bt (getF x y 8 15) 0] = (setF x y 8 10 (z &&& maskF 8)).2 := route (ρ := at3 x y z) (by kernel_rfl)
 exact Prod.ext (Eq.trans (by kernel_rfl) e1) (Eq.trans (by kernel_rfl) e2)
theorem rset8_11 (x y z : BitVec 64) : vecF 8 ((listF x y 8).set 11 (z &&& maskF 8)) = setF x y 8 11 (z &&& maskF 8) := by
 have e1 : asm [bt (getF x y 8 0) 0, bt (getF x y 8 1) 0, bt (getF x y 8 2) 0, bt (getF x y 8 3) 0, bt (getF x y 8 4) 0, bt (getF x y 8 5) 0, bt (getF x y 8 6) 0, bt (getF x y 8 7) 0] = (setF x y 8 11 (z &&& maskF 8)).1 := route (ρ := at3 x y z) (by kernel_rfl)
 have e2 : asm [bt (getF x y 8 8) 0, bt (getF x y 8 9) 0, bt (getF x y 8 10) 0, bt ((z &&& maskF 8)) 0, bt (getF x y 8 12) 0, bt (getF x y 8 13) 0, bt (getF x y 8 14) 0, bt (getF x y 8 15) 0] = (setF x y 8 11 (z &&& maskF 8)).2 := route (ρ := at3 x y z) (by kernel_rfl)
 exact Prod.ext (Eq.trans (by kernel_rfl) e1) (Eq.trans (by kernel_rfl) e2)
theorem rset8_12 (x y z : BitVec 64) : vecF 8 ((listF x y 8).set 12 (z &&& maskF 8)) = setF x y 8 12 (z &&& maskF 8) := by
 have e1 : asm [bt (getF x y 8 0) 0, bt (getF x y 8 1) 0, bt (getF x y 8 2) 0, bt (getF x y 8 3) 0, bt (getF x y 8 4) 0, bt (getF x y 8 5) 0, bt (getF x y 8 6) 0, bt (getF x y 8 7) 0] = (setF x y 8 12 (z &&& maskF 8)).1 := route (ρ := at3 x y z) (by kernel_rfl)
 have e2 : asm [bt (getF x y 8 8) 0, bt (getF x y 8 9) 0, bt (getF x y 8 10) 0, bt (getF x y 8 11) 0, bt ((z &&& maskF 8)) 0, bt (getF x y 8 13) 0, bt (getF x y 8 14) 0, bt (getF x y 8 15) 0] = (setF x y 8 12 (z &&& maskF 8)).2 := route (ρ := at3 x y z) (by kernel_rfl)
 exact Prod.ext (Eq.trans (by kernel_rfl) e1) (Eq.trans (by kernel_rfl) e2)
theorem rset8_13 (x y z : BitVec 64) : vecF 8 ((listF x y 8).set 13 (z &&& maskF 8)) = setF x y 8 13 (z &&& maskF 8) := by
 have e1 : asm [bt (getF x y 8 0) 0, bt (getF x y 8 1) 0, bt (getF x y 8 2) 0, bt (getF x y 8 3) 0, bt (getF x y 8 4) 0, bt (getF x y 8 5) 0, bt (getF x y 8 6) 0, bt (getF x y 8 7) 0] = (setF x y 8 13 (z &&& maskF 8)).1 := route (ρ := at3 x y z) (by kernel_rfl)
 have e2 : asm [bt (getF x y 8 8) 0, bt (getF x y 8 9) 0, bt (getF x y 8 10) 0, bt (getF x y 8 11) 0, bt (getF x y 8 12) 0, bt ((z &&& maskF 8)) 0, bt (getF x y 8 14) 0, bt (getF x y 8 15) 0] = (setF x y 8 13 (z &&& maskF 8)).2 := route (ρ := at3 x y z) (by kernel_rfl)
 exact Prod.ext (Eq.trans (by kernel_rfl) e1) (Eq.trans (by kernel_rfl) e2)
theorem rset8_14 (x y z : BitVec 64) : vecF 8 ((listF x y 8).set 14 (z &&& maskF 8)) = setF x y 8 14 (z &&& maskF 8) := by
 have e1 : asm [bt (getF x y 8 0) 0, bt (getF x y 8 1) 0, bt (getF x y 8 2) 0, bt (getF x y 8 3) 0, bt (getF x y 8 4) 0, bt (getF x y 8 5) 0, bt (getF x y 8 6) 0, bt (getF x y 8 7) 0] = (setF x y 8 14 (z &&& maskF 8)).1 := route (ρ := at3 x y z) (by kernel_rfl)
 have e2 : asm [bt (getF x y 8 8) 0, bt (getF x y 8 9) 0, bt (getF x y 8 10) 0, bt (getF x y 8 11) 0, bt (getF x y 8 12) 0, bt (getF x y 8 13) 0, bt ((z &&& maskF 8)) 0, bt (getF x y 8 15) 0] = (setF x y 8 14 (z &&& maskF 8)).2 := route (ρ := at3 x y z) (by kernel_rfl)
 exact Prod.ext (Eq.trans (by kernel_rfl) e1) (Eq.trans (by kernel_rfl) e2)
theorem rset8_15 (x y z : BitVec 64) : vecF 8 ((listF x y 8).set 15 (z &&& maskF 8)) = setF x y 8 15 (z &&& maskF 8) := by
 have e1 : asm [bt (getF x y 8 0) 0, bt (getF x y 8 1) 0, bt (getF x y 8 2) 0, bt (getF x y 8 3) 0, bt (getF x y 8 4) 0, bt (getF x y 8 5) 0, bt (getF x y 8 6) 0, bt (getF x y 8 7) 0] = (setF x y 8 15 (z &&& maskF 8)).1 := route (ρ := at3 x y z) (by kernel_rfl)
 have e2 : asm [bt (getF x y 8 8) 0, bt (getF x y 8 9) 0, bt (getF x y 8 10) 0, bt (getF x y 8 11) 0, bt (getF x y 8 12) 0, bt (getF x y 8 13) 0, bt (getF x y 8 14) 0, bt ((z &&& maskF 8)) 0] = (setF x y 8 15 (z &&& maskF 8)).2 := route (ρ := at3 x y z) (by kernel_rfl)
 exact Prod.ext (Eq.trans (by kernel_rfl) e1) (Eq.trans (by kernel_rfl) e2)
theorem rset16_0 (x y z : BitVec 64) : vecF 16 ((listF x y 16).set 0 (z &&& maskF 16)) = setF x y 16 0 (z &&& maskF 16) := by
 have e1 : asm [bt ((z &&& maskF 16)) 0, bt ((z &&& maskF 16)) 8, bt (getF x y 16 1) 0, bt (getF x y 16 1) 8, bt (getF x y 16 2) 0, bt (getF x y 16 2) 8, bt (getF x y 16 3) 0, bt (getF x y 16 3) 8] = (setF x y 16 0 (z &&& maskF 16)).1 := route (ρ := at3 x y z) (by kernel_rfl)
 have e2 : asm [bt (getF x y 16 4) 0, bt (getF x y 16 4) 8, bt (getF x y 16 5) 0, bt (getF x y 16 5) 8, bt (getF x y 16 6) 0, bt (getF x y 16 6) 8, bt (getF x y 16 7) 0, bt (getF x y 16 7) 8] = (setF x y 16 0 (z &&& maskF 16)).2 := route (ρ := at3 x y z) (by kernel_rfl)
 exact Prod.ext (Eq.trans (by kernel_rfl) e1) (Eq.trans (by kernel_rfl) e2)
theorem rset16_1 (x y z : BitVec 64) : vecF 16 ((listF x y 16).set 1 (z &&& maskF 16)) = setF x y 16 1 (z &&& maskF 16) := by
 have e1 : asm [bt (getF x y 16 0) 0, bt (getF x y 16 0) 8, bt ((z &&& maskF 16)) 0, bt ((z &&& maskF 16)) 8, bt (getF x y 16 2) 0, bt (getF x y 16 2) 8, bt (getF x y 16 3) 0, bt (getF x y 16 3) 8] = (setF x y 16 1 (z &&& maskF 16)).1 := route (ρ := at3 x y z) (by kernel_rfl)
 have e2 : asm [bt (getF x y 16 4) 0, bt (getF x y 16 4) 8, bt (getF x y 16 5) 0, bt (getF x y 16 5) 8, bt (getF x y 16 6) 0, bt (getF x y 16 6) 8, bt (getF x y 16 7) 0, bt (getF x y 16 7) 8] = (setF x y 16 1 (z &&& maskF 16)).2 := route (ρ := at3 x y z) (by kernel_rfl)
 exact Prod.ext (Eq.trans (by kernel_rfl) e1) (Eq.trans (by kernel_rfl) e2)
theorem rset16_2 (x y z : BitVec 64) : vecF 16 ((listF x y 16).set 2 (z &&& maskF 16)) = setF x y 16 2 (z &&& maskF 16) := by
 have e1 : asm [bt (getF x y 16 0) 0, bt (getF x y 16 0) 8, bt (getF x y 16 1) 0, bt (getF x y 16 1) 8, bt ((z &&& maskF 16)) 0, bt ((z &&& maskF 16)) 8, bt (getF x y 16 3) 0, bt (getF x y 16 3) 8] = (setF x y 16 2 (z &&& maskF 16)).1 := route (ρ := at3 x y z) (by kernel_rfl)
 have e2 : asm [bt (getF x y 16 4) 0, bt (getF x y 16 4) 8, bt (getF x y 16 5) 0, bt (getF x y 16 5) 8, bt (getF x y 16 6) 0, bt (getF x y 16 6) 8, bt (getF x y 16 7) 0, bt (getF x y 16 7) 8] = (setF x y 16 2 (z &&& maskF 16)).2 := route (ρ := at3 x y z) (by kernel_rfl)
 exact Prod.ext (Eq.trans (by kernel_rfl) e1) (Eq.trans (by kernel_rfl) e2)
theorem rset16_3 (x y z : BitVec 64) : vecF 16 ((listF x y 16).set 3 (z &&& maskF 16)) = setF x y 16 3 (z &&& maskF 16) := by
 have e1 : asm [bt (getF x y 16 0) 0, bt (getF x y 16 0) 8, bt (getF x y 16 1) 0, bt (getF x y 16 1) 8, bt (getF x y 16 2) 0, bt (getF x y 16 2) 8, bt ((z &&& maskF 16)) 0, bt ((z &&& maskF 16)) 8] = (setF x y 16 3 (z &&& maskF 16)).1 := route (ρ := at3 x y z) (by kernel_rfl)
 have e2 : asm [bt (getF x y 16 4) 0, bt (getF x y 16 4) 8, bt (getF x y 16 5) 0, bt (getF x y 16 5) 8, bt (getF x y 16 6) 0, bt (getF x y 16 6) 8, bt (getF x y 16 7) 0, bt (getF x y 16 7) 8] = (setF x y 16 3 (z &&& maskF 16)).2 := route (ρ := at3 x y z) (by kernel_rfl)
 exact Prod.ext (Eq.trans (by kernel_rfl) e1) (Eq.trans (by kernel_rfl) e2)
theorem rset16_4 (x y z : BitVec 64) : vecF 16 ((listF x y 16).set 4 (z &&& maskF 16)) = setF x y 16 4 (z &&& maskF 16) := by
 have e1 : asm [bt (getF x y 16 0) 0, bt (getF x y 16 0) 8, bt (getF x y 16 1) 0, bt (getF x y 16 1) 8, bt (getF x y 16 2) 0, bt (getF x y 16 2) 8, bt (getF x y 16 3) 0, bt (getF x y 16 3) 8] = (setF x y 16 4 (z &&& maskF 16)).1 := route (ρ := at3 x y z) (by kernel_rfl)
 have e2 : asm [bt ((z &&& maskF 16)) 0, bt ((z &&& maskF 16)) 8, bt (getF x y 16 5) 0, bt (getF x y 16 5) 8, bt (getF x y 16 6) 0, bt (getF x y 16 6) 8, bt (getF x y 16 7) 0, bt (getF x y 16 7) 8] = (setF x y 16 4 (z &&& maskF 16)).2 := route (ρ := at3 x y z) (by kernel_rfl)
 exact Prod.ext (Eq.trans (by kernel_rfl) e1) (Eq.trans (by kernel_rfl) e2)
theorem rset16_5 (x y z : BitVec 64) : vecF 16 ((listF x y 16).set 5 (z &&& maskF 16)) = setF x y 16 5 (z &&& maskF 16) := by
 have e1 : asm [bt (getF x y 16 0) 0, bt (getF x y 16 0) 8, bt (getF x y 16 1) 0, bt (getF x y 16 1) 8, bt (getF x y 16 2) 0, bt (getF x y 16 2) 8, bt (getF x y 16 3) 0, bt (getF x y 16 3) 8] = (setF x y 16 5 (z &&& maskF 16)).1 := route (ρ := at3 x y z) (by kernel_rfl)
 have e2 : asm [bt (getF x y 16 4) 0, bt (getF x y 16 4) 8, bt ((z &&& maskF 16)) 0, bt ((z &&& maskF 16)) 8, bt (getF x y 16 6) 0, bt (getF x y 16 6) 8, bt (getF x y 16 7) 0, bt (getF x y 16 7) 8] = (setF x y 16 5 (z &&& maskF 16)).2 := route (ρ := at3 x y z) (by kernel_rfl)
 exact Prod.ext (Eq.trans (by kernel_rfl) e1) (Eq.trans (by kernel_rfl) e2)
theorem rset16_6 (x y z : BitVec 64) : vecF 16 ((listF x y 16).set 6 (z &&& maskF 16)) = setF x y 16 6 (z &&& maskF 16) := by
 have e1 : asm [bt (getF x y 16 0) 0, bt (getF x y 16 0) 8, bt (getF x y 16 1) 0, bt (getF x y 16 1) 8, bt (getF x y 16 2) 0, bt (getF x y 16 2) 8, bt (getF x y 16 3) 0, bt (getF x y 16 3) 8] = (setF x y 16 6 (z &&& maskF 16)).1 := route (ρ := at3 x y z) (by kernel_rfl)
 have e2 : asm [bt (getF x y 16 4) 0, bt (getF x y 16 4) 8, bt (getF x y 16 5) 0, bt (getF x y 16 5) 8, bt ((z &&& maskF 16)) 0, bt ((z &&& maskF 16)) 8, bt (getF x y 16 7) 0, bt (getF x y 16 7) 8] = (setF x y 16 6 (z &&& maskF 16)).2 := route (ρ := at3 x y z) (by kernel_rfl)
 exact Prod.ext (Eq.trans (by kernel_rfl) e1) (Eq.trans (by kernel_rfl) e2)
theorem rset16_7 (x y z : BitVec 64) : vecF 16 ((listF x y 16).set 7 (z &&& maskF 16)) = setF x y 16 7 (z &&& maskF 16) := by
 have e1 : asm [bt (getF x y 16 0) 0, bt (getF x y 16 0) 8, bt (getF x y 16 1) 0, bt (getF x y 16 1) 8, bt (getF x y 16 2) 0, bt (getF x y 16 2) 8, bt (getF x y 16 3) 0, bt (getF x y 16 3) 8] = (setF x y 16 7 (z &&& maskF 16)).1 := route (ρ := at3 x y z) (by kernel_rfl)
 have e2 : asm [bt (getF x y 16 4) 0, bt (getF x y 16 4) 8, bt (getF x y 16 5) 0, bt (getF x y 16 5) 8, bt (getF x y 16 6) 0, bt (getF x y 16 6) 8, bt ((z &&& maskF 16)) 0, bt ((z &&& maskF 16)) 8] = (setF x y 16 7 (z &&& maskF 16)).2 := route (ρ := at3 x y z) (by kernel_rfl)
 exact Prod.ext (Eq.trans (by kernel_rfl) e1) (Eq.trans (by kernel_rfl) e2)
theorem rset32_0 (x y z : BitVec 64) : vecF 32 ((listF x y 32).set 0 (z &&& maskF 32)) = setF x y 32 0 (z &&& maskF 32) := by
 have e1 : asm [bt ((z &&& maskF 32)) 0, bt ((z &&& maskF 32)) 8, bt ((z &&& maskF 32)) 16, bt ((z &&& maskF 32)) 24, bt (getF x y 32 1) 0, bt (getF x y 32 1) 8, bt (getF x y 32 1) 16, bt (getF x y 32 1) 24] = (setF x y 32 0 (z &&& maskF 32)).1 := route (ρ := at3 x y z) (by kernel_rfl)
 have e2 : asm [bt (getF x y 32 2) 0, bt (getF x y 32 2) 8, bt (getF x y 32 2) 16, bt (getF x y 32 2) 24, bt (getF x y 32 3) 0, bt (getF x y 32 3) 8, bt (getF x y 32 3) 16, bt (getF x y 32 3) 24] = (setF x y 32 0 (z &&& maskF 32)).2 := route (ρ := at3 x y z) (by kernel_rfl)
 exact Prod.ext (Eq.trans (by kernel_rfl) e1) (Eq.trans (by kernel_rfl) e2)
theorem rset32_1 (x y z : BitVec 64) : vecF 32 ((listF x y 32).set 1 (z &&& maskF 32)) = setF x y 32 1 (z &&& maskF 32) := by
 have e1 : asm [bt (getF x y 32 0) 0, bt (getF x y 32 0) 8, bt (getF x y 32 0) 16, bt (getF x y 32 0) 24, bt ((z &&& maskF 32)) 0, bt ((z &&& maskF 32)) 8, bt ((z &&& maskF 32)) 16, bt ((z &&& maskF 32)) 24] = (setF x y 32 1 (z &&& maskF 32)).1 := route (ρ := at3 x y z) (by kernel_rfl)
 have e2 : asm [bt (getF x y 32 2) 0, bt (getF x y 32 2) 8, bt (getF x y 32 2) 16, bt (getF x y 32 2) 24, bt (getF x y 32 3) 0, bt (getF x y 32 3) 8, bt (getF x y 32 3) 16, bt (getF x y 32 3) 24] = (setF x y 32 1 (z &&& maskF 32)).2 := route (ρ := at3 x y z) (by kernel_rfl)
 exact Prod.ext (Eq.trans (by kernel_rfl) e1) (Eq.trans (by kernel_rfl) e2)
theorem rset32_2 (x y z : BitVec 64) : vecF 32 ((listF x y 32).set 2 (z &&& maskF 32)) = setF x y 32 2 (z &&& maskF 32) := by
 have e1 : asm [bt (getF x y 32 0) 0, bt (getF x y 32 0) 8, bt (getF x y 32 0) 16, bt (getF x y 32 0) 24, bt (getF x y 32 1) 0, bt (getF x y 32 1) 8, bt (getF x y 32 1) 16, bt (getF x y 32 1) 24] = (setF x y 32 2 (z &&& maskF 32)).1 := route (ρ := at3 x y z) (by kernel_rfl)
 have e2 : asm [bt ((z &&& maskF 32)) 0, bt ((z &&& maskF 32)) 8, bt ((z &&& maskF 32)) 16, bt ((z &&& maskF 32)) 24, bt (getF x y 32 3) 0, bt (getF x y 32 3) 8, bt (getF x y 32 3) 16, bt (getF x y 32 3) 24] = (setF x y 32 2 (z &&& maskF 32)).2 := route (ρ := at3 x y z) (by kernel_rfl)
 exact Prod.ext (Eq.trans (by kernel_rfl) e1) (Eq.trans (by kernel_rfl) e2)
theorem rset32_3 (x y z : BitVec 64) : vecF 32 ((listF x y 32).set 3 (z &&& maskF 32)) = setF x y 32 3 (z &&& maskF 32) := by
 have e1 : asm [bt (getF x y 32 0) 0, bt (getF x y 32 0) 8, bt (getF x y 32 0) 16, bt (getF x y 32 0) 24, bt (getF x y 32 1) 0, bt (getF x y 32 1) 8, bt (getF x y 32 1) 16, bt (getF x y 32 1) 24] = (setF x y 32 3 (z &&& maskF 32)).1 := route (ρ := at3 x y z) (by kernel_rfl)
 have e2 : asm [bt (getF x y 32 2) 0, bt (getF x y 32 2) 8, bt (getF x y 32 2) 16, bt (getF x y 32 2) 24, bt ((z &&& maskF 32)) 0, bt ((z &&& maskF 32)) 8, bt ((z &&& maskF 32)) 16, bt ((z &&& maskF 32)) 24] = (setF x y 32 3 (z &&& maskF 32)).2 := route (ρ := at3 x y z) (by kernel_rfl)
 exact Prod.ext (Eq.trans (by kernel_rfl) e1) (Eq.trans (by kernel_rfl) e2)
theorem rset64_0 (x y z : BitVec 64) : vecF 64 ((listF x y 64).set 0 (z &&& maskF 64)) = setF x y 64 0 (z &&& maskF 64) := by
 have e1 : asm [bt ((z &&& maskF 64)) 0, bt ((z &&& maskF 64)) 8, bt ((z &&& maskF 64)) 16, bt ((z &&& maskF 64)) 24, bt ((z &&& maskF 64)) 32, bt ((z &&& maskF 64)) 40, bt ((z &&& maskF 64)) 48, bt ((z &&& maskF 64)) 56] = (setF x y 64 0 (z &&& maskF 64)).1 := route (ρ := at3 x y z) (by kernel_rfl)
 have e2 : asm [bt (getF x y 64 1) 0, bt (getF x y 64 1) 8, bt (getF x y 64 1) 16, bt (getF x y 64 1) 24, bt (getF x y 64 1) 32, bt (getF x y 64 1) 40, bt (getF x y 64 1) 48, bt (getF x y 64 1) 56] = (setF x y 64 0 (z &&& maskF 64)).2 := route (ρ := at3 x y z) (by kernel_rfl)
 exact Prod.ext (Eq.trans (by kernel_rfl) e1) (Eq.trans (by kernel_rfl) e2)
theorem rset64_1 (x y z : BitVec 64) : vecF 64 ((listF x y 64).set 1 (z &&& maskF 64)) = setF x y 64 1 (z &&& maskF 64) := by
 have e1 : asm [bt (getF x y 64 0) 0, bt (getF x y 64 0) 8, bt (getF x y 64 0) 16, bt (getF x y 64 0) 24, bt (getF x y 64 0) 32, bt (getF x y 64 0) 40, bt (getF x y 64 0) 48, bt (getF x y 64 0) 56] = (setF x y 64 1 (z &&& maskF 64)).1 := route (ρ := at3 x y z) (by kernel_rfl)
 have e2 : asm [bt ((z &&& maskF 64)) 0, bt ((z &&& maskF 64)) 8, bt ((z &&& maskF 64)) 16, bt ((z &&& maskF 64)) 24, bt ((z &&& maskF 64)) 32, bt ((z &&& maskF 64)) 40, bt ((z &&& maskF 64)) 48, bt ((z &&& maskF 64)) 56] = (setF x y 64 1 (z &&& maskF 64)).2 := route (ρ := at3 x y z) (by kernel_rfl)
 exact Prod.ext (Eq.trans (by kernel_rfl) e1) (Eq.trans (by kernel_rfl) e2)
theorem rset {w i : Int} (hw : okW w = true) (h0 : 0 ≤ i) (h1 : i < 128 / w) (x y : BitVec 64) {z : BitVec 64} (hz : z ≤ maskF w) : vecF w ((listF x y w).set i.toNat z) = setF x y w i z := by
 rw [and_fit hw hz]
 rcases okW_cases hw with rfl | rfl | rfl | rfl
 ·have : i = 0 ∨ i = 1 ∨ i = 2 ∨ i = 3 ∨ i = 4 ∨ i = 5 ∨ i = 6 ∨ i = 7 ∨ i = 8 ∨ i = 9 ∨ i = 10 ∨ i = 11 ∨ i = 12 ∨ i = 13 ∨ i = 14 ∨ i = 15 := by omega
  rcases this with rfl | rfl | rfl | rfl | rfl | rfl | rfl | rfl | rfl | rfl | rfl | rfl | rfl | rfl | rfl | rfl
  ·exact rset8_0 x y z
  ·exact rset8_1 x y z
  ·exact rset8_2 x y z
  ·exact rset8_3 x y z
  ·exact rset8_4 x y z
  ·exact rset8_5 x y z
  ·exact rset8_6 x y z
  ·exact rset8_7 x y z
  ·exact rset8_8 x y z
  ·exact rset8_9 x y z
  ·exact rset8_10 x y z
  ·exact rset8_11 x y z
  ·exact rset8_12 x y z
  ·exact rset8_13 x y z
  ·exact rset8_14 x y z
  ·exact rset8_15 x y z
 ·have : i = 0 ∨ i = 1 ∨ i = 2 ∨ i = 3 ∨ i = 4 ∨ i = 5 ∨ i = 6 ∨ i = 7 := by omega
  rcases this with rfl | rfl | rfl | rfl | rfl | rfl | rfl | rfl
  ·exact rset16_0 x y z
  ·exact rset16_1 x y z
  ·exact rset16_2 x y z
  ·exact rset16_3 x y z
  ·exact rset16_4 x y z
  ·exact rset16_5 x y z
  ·exact rset16_6 x y z
  ·exact rset16_7 x y z
 ·have : i = 0 ∨ i = 1 ∨ i = 2 ∨ i = 3 := by omega
  rcases this with rfl | rfl | rfl | rfl
  ·exact rset32_0 x y z
  ·exact rset32_1 x y z
  ·exact rset32_2 x y z
  ·exact rset32_3 x y z
 ·have : i = 0 ∨ i = 1 := by omega
  rcases this with rfl | rfl
  ·exact rset64_0 x y z
  ·exact rset64_1 x y z
end Go.L23

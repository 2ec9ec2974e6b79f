/-
  Part of the proof; what its functions and lemmas say stands in the text.
-/
import Derived.Test.YtlicpmhlphhabaaDoorW07f
set_option linter.unusedSimpArgs false
set_option linter.unusedVariables false
/-!
Vectors of whole numbers: lanes narrowed and widened.
-/
namespace Go.L07
open Go.Ev Go.Proofs Go.RowKit Go.Wh

/-- From a width to another one, over whatever functions. -/
abbrev BX := Int → Int → Bool → BitVec 64 → BitVec 64
abbrev EX := Int → Int → Bool → BitVec 64 → Int
noncomputable def ConG (X : BX) (Y : EX) : Ev.Spec := joined fun | [.i .i64 f, .i .i64 t, .bool s, .u64 a] => some (.tup [.u64 (X f t s a), .i .i64 (Y f t s a)]) | _ => none
def extN (f t : Int) (s : Bool) (a : BitVec 64) : BitVec 64 := ifF (okE f t a) (extF f t s a)
def extR (f t : Int) (_ : Bool) (a : BitVec 64) : Int := errF (okE f t a)
def narN (f t : Int) (s : Bool) (a : BitVec 64) : BitVec 64 := ifF (okN f t a) (narF f t s a)
def narR (f t : Int) (_ : Bool) (a : BitVec 64) : Int := errF (okN f t a)
theorem c_Ext : Snd 62 (ConG extN extR) := t_Extend
theorem c_rExt : Snd 74 (ConG extN extR) := t_rExtend
theorem c_Nar : Snd 70 (ConG narN narR) := t_Narrow
theorem c_rNar : Snd 71 (ConG narN narR) := t_rNarrow

/-! narrowed -/
def inN (w : Int) : Bool := w == 16 || w == 32
def narL (X : BX) (w : Int) (s : Bool) (a0 a1 b0 b1 : BitVec 64) : List (BitVec 64) := (listF a0 a1 w ++ listF b0 b1 w).map (X w (w / 2) s)
noncomputable def VnarS (X : BX) : Ev.Spec := joined fun | [.i .i64 w, .bool s, .agg [.u64 a0, .u64 a1], .agg [.u64 b0, .u64 b1]] => some (eachB (inN w) (w / 2) (narL X w s a0 a1 b0 b1)) | _ => none
def annN : Nat → List Nat := fun | 7 => [0, 1, 8, 14, 39, 40, 41] | _ => []
def annNr : Nat → List Nat := fun | 7 => [0, 1, 8, 10, 12] | _ => []
theorem inN_cases {w : Int} (h : inN w = true) : w = 16 ∨ w = 32 := by simpa [inN] using h
theorem vNar_16 (X : BX) (Y : EX) (s : Bool) (a0 a1 b0 b1 : BitVec 64) : ex [(41, left allF), (70, ConG X Y), (63, OfS)] annN Tryd.f32 [.i .i64 16, .bool s, vec a0 a1, vec b0 b1] some =
  some (eachB (okOf 8 (narL X 16 s a0 a1 b0 b1)) 8 (narL X 16 s a0 a1 b0 b1)) := by kernel_rfl
theorem rNar_16 (X : BX) (Y : EX) (s : Bool) (a0 a1 b0 b1 : BitVec 64) : ex [(24, listS), (71, ConG X Y), (46, vecS)] annNr Tryd.f33 [.i .i64 16, .bool s, vec a0 a1, vec b0 b1] some =
  some (eachB true 8 (narL X 16 s a0 a1 b0 b1)) := by kernel_rfl
theorem vNar_32 (X : BX) (Y : EX) (s : Bool) (a0 a1 b0 b1 : BitVec 64) : ex [(41, left allF), (70, ConG X Y), (63, OfS)] annN Tryd.f32 [.i .i64 32, .bool s, vec a0 a1, vec b0 b1] some =
  some (eachB (okOf 16 (narL X 32 s a0 a1 b0 b1)) 16 (narL X 32 s a0 a1 b0 b1)) := by kernel_rfl
theorem rNar_32 (X : BX) (Y : EX) (s : Bool) (a0 a1 b0 b1 : BitVec 64) : ex [(24, listS), (71, ConG X Y), (46, vecS)] annNr Tryd.f33 [.i .i64 32, .bool s, vec a0 a1, vec b0 b1] some =
  some (eachB true 16 (narL X 32 s a0 a1 b0 b1)) := by kernel_rfl
theorem vNar_no (w : Int) (s : Bool) (a0 a1 b0 b1 : BitVec 64) : ex [] (fun _ => []) Tryd.f32 [.i .i64 w, .bool s, vec a0 a1, vec b0 b1] some =
  if (!(w == 16)) = true then if (!(w == 32)) = true then some ofErr else none else none := by kernel_rfl
theorem rNar_no (w : Int) (s : Bool) (a0 a1 b0 b1 : BitVec 64) : ex [] (fun _ => []) Tryd.f33 [.i .i64 w, .bool s, vec a0 a1, vec b0 b1] some =
  if (!(w == 16)) = true then if (!(w == 32)) = true then some ofErr else none else none := by kernel_rfl
theorem inN_no {w : Int} (h : inN w = false) {x : D} : (if (!(w == 16)) = true then if (!(w == 32)) = true then some x else none else none) = some x := by
  simp only [inN, Bool.or_eq_false_iff] at h
  simp [h.1, h.2]
theorem half_fit {w : Int} (hw : inN w = true) : okW w = true ∧ okW (w / 2) = true ∧ w / 2 < w ∧ (128 / (w / 2)).toNat = (128 / w).toNat + (128 / w).toNat := by
  rcases inN_cases hw with rfl | rfl <;> decide
theorem okOf_nar {w : Int} (hw : inN w = true) (s : Bool) (a0 a1 b0 b1 : BitVec 64) : okOf (w / 2) (narL narN w s a0 a1 b0 b1) = true := by
  obtain ⟨h1, h2, h3, h4⟩ := half_fit hw
  simp only [okOf, h2, narL, List.length_map, List.length_append, listF_length, h4, decide_true, Bool.true_and, List.all_eq_true, List.mem_map, List.mem_append]
  rintro _ ⟨z, hz, rfl⟩
  have hf : fitF w z = true := hz.elim (list_fit h1 z) (list_fit h1 z)
  have : okN w (w / 2) z = true := by simp [okN, hf, h2, h3]
  refine decide_eq_true ?_
  unfold narN narF
  rw [this]
  show (if s = true then _ else _) ≤ _
  have hr := sgn_range hf
  split
  · exact and_le _ _
  · have hp : 0 < pw (w / 2) := by rcases inN_cases hw with rfl | rfl <;> decide
    have hp2 : pw (w / 2) ≤ 65536 := by rcases inN_cases hw with rfl | rfl <;> decide
    refine le_of_fit (fit_of_nat h2 ?_)
    rw [ofInt_nat (by omega) (by omega)]
    omega
theorem t_vNar : Snd 32 (VnarS narN) := by
  refine Sound.of_pt fun ds d hd => ?_
  split at hd
  · rename_i w s a0 a1 b0 b1
    cases hd
    cases hw : inN w
    · exact (execFn_sound (ann := fun _ => []) TableOK.nil mixed Tryd.func32 (by kernel_rfl) 50).pt ((vNar_no w s a0 a1 b0 b1).trans (inN_no hw))
    · have S := execFn_sound (P := Tryd.prog) (G := G0) (ann := annN) (TableOK.cons All28.left (TableOK.cons c_Nar (TableOK.cons (OfJ Of30) TableOK.nil))) mixed Tryd.func32 (by kernel_rfl) 50
      have hk := okOf_nar hw s a0 a1 b0 b1
      rcases inN_cases hw with rfl | rfl
      · exact S.pt ((vNar_16 narN narR s a0 a1 b0 b1).trans (by rw [show okOf 8 (narL narN 16 s a0 a1 b0 b1) = true from hk]; rfl))
      · exact S.pt ((vNar_32 narN narR s a0 a1 b0 b1).trans (by rw [show okOf 16 (narL narN 32 s a0 a1 b0 b1) = true from hk]; rfl))
  · cases hd
theorem t_rvNar : Snd 33 (VnarS narN) := by
  refine Sound.of_pt fun ds d hd => ?_
  split at hd
  · rename_i w s a0 a1 b0 b1
    cases hd
    cases hw : inN w
    · exact (execFn_sound (ann := fun _ => []) TableOK.nil mixed Tryd.func33 (by kernel_rfl) 50).pt ((rNar_no w s a0 a1 b0 b1).trans (inN_no hw))
    · have S := execFn_sound (P := Tryd.prog) (G := G0) (ann := annNr) (TableOK.cons list35 (TableOK.cons c_rNar (TableOK.cons vec45 TableOK.nil))) mixed Tryd.func33 (by kernel_rfl) 50
      rcases inN_cases hw with rfl | rfl
      · exact S.pt (rNar_16 narN narR s a0 a1 b0 b1)
      · exact S.pt (rNar_32 narN narR s a0 a1 b0 b1)
  · cases hd

/-! widened -/
def inW (w : Int) : Bool := w == 8 || w == 16 || w == 32
theorem inW_cases {w : Int} (h : inW w = true) : w = 8 ∨ w = 16 ∨ w = 32 := by simpa [inW, or_assoc] using h
def wideL (X : BX) (w : Int) (s h : Bool) (a0 a1 : BitVec 64) : List (BitVec 64) := (if h = true then (listF a0 a1 w).drop (64 / w).toNat else (listF a0 a1 w).take (64 / w).toNat).map (X w (2 * w) s)
def wideF (X : BX) : List D → Option (Bool × D × D)
  | [.i .i64 w, .bool s, .bool h, .agg [.u64 a0, .u64 a1]] => some (inW w, .tup [.sl64 (wideL X w s h a0 a1), .i .i64 0], .tup [nilS, .i .i64 2])
  | _ => none
noncomputable def rwideS (X : BX) : Ev.Spec := guarded fun
  | [.i .i64 w, .bool s, .bool h, .agg [.u64 a0, .u64 a1]] => some (inW w, .sl64 (wideL X w s h a0 a1))
  | _ => none
noncomputable def VwideS (X : BX) : Ev.Spec := joined fun | [.i .i64 w, .bool s, .bool h, .agg [.u64 a0, .u64 a1]] => some (eachB (inW w) (2 * w) (wideL X w s h a0 a1)) | _ => none
def annw : Nat → List Nat := fun | 9 => [0, 1, 10, 42, 43, 44] | _ => []
def annwr : Nat → List Nat := fun | 4 => [0, 1, 2, 9, 10, 11] | _ => []
theorem vwide_8t (X : BX) (Y : EX) (s : Bool) (a0 a1 : BitVec 64) : ex [(41, left allF), (62, ConG X Y)] annw Tryd.f72 [.i .i64 8, .bool s, .bool true, vec a0 a1] some =
  some (.tup [.sl64 (wideL X 8 s true a0 a1), .i .i64 0]) := by kernel_rfl
theorem rwide_8t (X : BX) (Y : EX) (s : Bool) (a0 a1 : BitVec 64) : ex [(24, listS), (74, ConG X Y)] annwr Tryd.f73 [.i .i64 8, .bool s, .bool true, vec a0 a1] some =
  some (.sl64 (wideL X 8 s true a0 a1)) := by kernel_rfl
theorem vWide_8t (X : BX) (s : Bool) (a0 a1 : BitVec 64) : ex [(72, left (wideF X)), (63, OfS)] (fun _ => []) Tryd.f34 [.i .i64 8, .bool s, .bool true, vec a0 a1] some =
  some (eachB (okOf 16 (wideL X 8 s true a0 a1)) 16 (wideL X 8 s true a0 a1)) := by kernel_rfl
theorem rWide_8t (X : BX) (s : Bool) (a0 a1 : BitVec 64) : ex [(73, rwideS X), (46, vecS)] (fun _ => []) Tryd.f35 [.i .i64 8, .bool s, .bool true, vec a0 a1] some =
  some (eachB true 16 (wideL X 8 s true a0 a1)) := by kernel_rfl
theorem vwide_8f (X : BX) (Y : EX) (s : Bool) (a0 a1 : BitVec 64) : ex [(41, left allF), (62, ConG X Y)] annw Tryd.f72 [.i .i64 8, .bool s, .bool false, vec a0 a1] some =
  some (.tup [.sl64 (wideL X 8 s false a0 a1), .i .i64 0]) := by kernel_rfl
theorem rwide_8f (X : BX) (Y : EX) (s : Bool) (a0 a1 : BitVec 64) : ex [(24, listS), (74, ConG X Y)] annwr Tryd.f73 [.i .i64 8, .bool s, .bool false, vec a0 a1] some =
  some (.sl64 (wideL X 8 s false a0 a1)) := by kernel_rfl
theorem vWide_8f (X : BX) (s : Bool) (a0 a1 : BitVec 64) : ex [(72, left (wideF X)), (63, OfS)] (fun _ => []) Tryd.f34 [.i .i64 8, .bool s, .bool false, vec a0 a1] some =
  some (eachB (okOf 16 (wideL X 8 s false a0 a1)) 16 (wideL X 8 s false a0 a1)) := by kernel_rfl
theorem rWide_8f (X : BX) (s : Bool) (a0 a1 : BitVec 64) : ex [(73, rwideS X), (46, vecS)] (fun _ => []) Tryd.f35 [.i .i64 8, .bool s, .bool false, vec a0 a1] some =
  some (eachB true 16 (wideL X 8 s false a0 a1)) := by kernel_rfl
theorem vwide_16t (X : BX) (Y : EX) (s : Bool) (a0 a1 : BitVec 64) : ex [(41, left allF), (62, ConG X Y)] annw Tryd.f72 [.i .i64 16, .bool s, .bool true, vec a0 a1] some =
  some (.tup [.sl64 (wideL X 16 s true a0 a1), .i .i64 0]) := by kernel_rfl
theorem rwide_16t (X : BX) (Y : EX) (s : Bool) (a0 a1 : BitVec 64) : ex [(24, listS), (74, ConG X Y)] annwr Tryd.f73 [.i .i64 16, .bool s, .bool true, vec a0 a1] some =
  some (.sl64 (wideL X 16 s true a0 a1)) := by kernel_rfl
theorem vWide_16t (X : BX) (s : Bool) (a0 a1 : BitVec 64) : ex [(72, left (wideF X)), (63, OfS)] (fun _ => []) Tryd.f34 [.i .i64 16, .bool s, .bool true, vec a0 a1] some =
  some (eachB (okOf 32 (wideL X 16 s true a0 a1)) 32 (wideL X 16 s true a0 a1)) := by kernel_rfl
theorem rWide_16t (X : BX) (s : Bool) (a0 a1 : BitVec 64) : ex [(73, rwideS X), (46, vecS)] (fun _ => []) Tryd.f35 [.i .i64 16, .bool s, .bool true, vec a0 a1] some =
  some (eachB true 32 (wideL X 16 s true a0 a1)) := by kernel_rfl
theorem vwide_16f (X : BX) (Y : EX) (s : Bool) (a0 a1 : BitVec 64) : ex [(41, left allF), (62, ConG X Y)] annw Tryd.f72 [.i .i64 16, .bool s, .bool false, vec a0 a1] some =
  some (.tup [.sl64 (wideL X 16 s false a0 a1), .i .i64 0]) := by kernel_rfl
theorem rwide_16f (X : BX) (Y : EX) (s : Bool) (a0 a1 : BitVec 64) : ex [(24, listS), (74, ConG X Y)] annwr Tryd.f73 [.i .i64 16, .bool s, .bool false, vec a0 a1] some =
  some (.sl64 (wideL X 16 s false a0 a1)) := by kernel_rfl
theorem vWide_16f (X : BX) (s : Bool) (a0 a1 : BitVec 64) : ex [(72, left (wideF X)), (63, OfS)] (fun _ => []) Tryd.f34 [.i .i64 16, .bool s, .bool false, vec a0 a1] some =
  some (eachB (okOf 32 (wideL X 16 s false a0 a1)) 32 (wideL X 16 s false a0 a1)) := by kernel_rfl
theorem rWide_16f (X : BX) (s : Bool) (a0 a1 : BitVec 64) : ex [(73, rwideS X), (46, vecS)] (fun _ => []) Tryd.f35 [.i .i64 16, .bool s, .bool false, vec a0 a1] some =
  some (eachB true 32 (wideL X 16 s false a0 a1)) := by kernel_rfl
theorem vwide_32t (X : BX) (Y : EX) (s : Bool) (a0 a1 : BitVec 64) : ex [(41, left allF), (62, ConG X Y)] annw Tryd.f72 [.i .i64 32, .bool s, .bool true, vec a0 a1] some =
  some (.tup [.sl64 (wideL X 32 s true a0 a1), .i .i64 0]) := by kernel_rfl
theorem rwide_32t (X : BX) (Y : EX) (s : Bool) (a0 a1 : BitVec 64) : ex [(24, listS), (74, ConG X Y)] annwr Tryd.f73 [.i .i64 32, .bool s, .bool true, vec a0 a1] some =
  some (.sl64 (wideL X 32 s true a0 a1)) := by kernel_rfl
theorem vWide_32t (X : BX) (s : Bool) (a0 a1 : BitVec 64) : ex [(72, left (wideF X)), (63, OfS)] (fun _ => []) Tryd.f34 [.i .i64 32, .bool s, .bool true, vec a0 a1] some =
  some (eachB (okOf 64 (wideL X 32 s true a0 a1)) 64 (wideL X 32 s true a0 a1)) := by kernel_rfl
theorem rWide_32t (X : BX) (s : Bool) (a0 a1 : BitVec 64) : ex [(73, rwideS X), (46, vecS)] (fun _ => []) Tryd.f35 [.i .i64 32, .bool s, .bool true, vec a0 a1] some =
  some (eachB true 64 (wideL X 32 s true a0 a1)) := by kernel_rfl
theorem vwide_32f (X : BX) (Y : EX) (s : Bool) (a0 a1 : BitVec 64) : ex [(41, left allF), (62, ConG X Y)] annw Tryd.f72 [.i .i64 32, .bool s, .bool false, vec a0 a1] some =
  some (.tup [.sl64 (wideL X 32 s false a0 a1), .i .i64 0]) := by kernel_rfl
theorem rwide_32f (X : BX) (Y : EX) (s : Bool) (a0 a1 : BitVec 64) : ex [(24, listS), (74, ConG X Y)] annwr Tryd.f73 [.i .i64 32, .bool s, .bool false, vec a0 a1] some =
  some (.sl64 (wideL X 32 s false a0 a1)) := by kernel_rfl
theorem vWide_32f (X : BX) (s : Bool) (a0 a1 : BitVec 64) : ex [(72, left (wideF X)), (63, OfS)] (fun _ => []) Tryd.f34 [.i .i64 32, .bool s, .bool false, vec a0 a1] some =
  some (eachB (okOf 64 (wideL X 32 s false a0 a1)) 64 (wideL X 32 s false a0 a1)) := by kernel_rfl
theorem rWide_32f (X : BX) (s : Bool) (a0 a1 : BitVec 64) : ex [(73, rwideS X), (46, vecS)] (fun _ => []) Tryd.f35 [.i .i64 32, .bool s, .bool false, vec a0 a1] some =
  some (eachB true 64 (wideL X 32 s false a0 a1)) := by kernel_rfl
theorem vwide_no (w : Int) (s h : Bool) (a0 a1 : BitVec 64) : ex [] (fun _ => []) Tryd.f72 [.i .i64 w, .bool s, .bool h, vec a0 a1] some =
  if (!(w == 8)) = true then if (!(w == 16)) = true then if (!(w == 32)) = true then some (.tup [nilS, .i .i64 2]) else none else none else none := by kernel_rfl
theorem vWide_no (X : BX) (w : Int) (s h : Bool) (a0 a1 : BitVec 64) : ex [(72, right (wideF X))] (fun _ => []) Tryd.f34 [.i .i64 w, .bool s, .bool h, vec a0 a1] some =
  if (!inW w) = true then some ofErr else none := by kernel_rfl
theorem rWide_no (w : Int) (s h : Bool) (a0 a1 : BitVec 64) : ex [] (fun _ => []) Tryd.f35 [.i .i64 w, .bool s, .bool h, vec a0 a1] some =
  if (!(w == 8)) = true then if (!(w == 16)) = true then if (!(w == 32)) = true then some ofErr else none else none else none := by kernel_rfl
theorem inW_no {w : Int} (h : inW w = false) {x : D} : (if (!(w == 8)) = true then if (!(w == 16)) = true then if (!(w == 32)) = true then some x else none else none else none) = some x := by
  simp only [inW, Bool.or_eq_false_iff] at h
  simp [h.1.1, h.1.2, h.2]
theorem t_vwide : Snd 72 (two (wideF extN)) := by
  refine Sound.of_ptT fun ds b d e hF => ?_
  unfold wideF at hF
  split at hF
  · rename_i w s h a0 a1
    simp only [Option.some.injEq, Prod.mk.injEq] at hF
    obtain ⟨hw, rfl, rfl⟩ := hF
    cases b
    · exact (execFn_sound (ann := fun _ => []) TableOK.nil mixed Tryd.func72 (by kernel_rfl) 50).pt ((vwide_no w s h a0 a1).trans (inW_no hw))
    · have S := execFn_sound (P := Tryd.prog) (G := G0) (ann := annw) (TableOK.cons All28.left (TableOK.cons c_Ext TableOK.nil)) mixed Tryd.func72 (by kernel_rfl) 50
      rcases inW_cases hw with rfl | rfl | rfl <;> cases h
      · exact S.pt (vwide_8f extN extR s a0 a1)
      · exact S.pt (vwide_8t extN extR s a0 a1)
      · exact S.pt (vwide_16f extN extR s a0 a1)
      · exact S.pt (vwide_16t extN extR s a0 a1)
      · exact S.pt (vwide_32f extN extR s a0 a1)
      · exact S.pt (vwide_32t extN extR s a0 a1)
  · cases hF
theorem t_rwide : Snd 73 (rwideS extN) := by
  refine Sound.of_ptG fun ds d hF => ?_
  split at hF
  · rename_i w s h a0 a1
    simp only [Option.some.injEq, Prod.mk.injEq] at hF
    obtain ⟨hw, rfl⟩ := hF
    have S := execFn_sound (P := Tryd.prog) (G := G0) (ann := annwr) (TableOK.cons list35 (TableOK.cons c_rExt TableOK.nil)) mixed Tryd.func73 (by kernel_rfl) 50
    rcases inW_cases hw with rfl | rfl | rfl <;> cases h
    · exact S.pt (rwide_8f extN extR s a0 a1)
    · exact S.pt (rwide_8t extN extR s a0 a1)
    · exact S.pt (rwide_16f extN extR s a0 a1)
    · exact S.pt (rwide_16t extN extR s a0 a1)
    · exact S.pt (rwide_32f extN extR s a0 a1)
    · exact S.pt (rwide_32t extN extR s a0 a1)
  · cases hF
theorem twice_fit {w : Int} (hw : inW w = true) : okW w = true ∧ okW (2 * w) = true ∧ w < 2 * w ∧ (128 / (2 * w)).toNat = (64 / w).toNat ∧ (128 / w).toNat = (64 / w).toNat + (64 / w).toNat := by
  rcases inW_cases hw with rfl | rfl | rfl <;> decide
theorem pw_twice {w : Int} (hw : inW w = true) : pw (2 * w) = pw w * pw w := by
  rcases inW_cases hw with rfl | rfl | rfl <;> decide
theorem wide_mem {X : BX} {w : Int} {s h : Bool} {a0 a1 : BitVec 64} {z : BitVec 64} (hz : z ∈ wideL X w s h a0 a1) : ∃ y ∈ listF a0 a1 w, z = X w (2 * w) s y := by
  simp only [wideL, List.mem_map] at hz
  obtain ⟨y, hy, rfl⟩ := hz
  refine ⟨y, ?_, rfl⟩
  split at hy
  · exact List.mem_of_mem_drop hy
  · exact List.mem_of_mem_take hy
theorem wide_len (X : BX) {w : Int} (hw : inW w = true) (s h : Bool) (a0 a1 : BitVec 64) : (wideL X w s h a0 a1).length = (128 / (2 * w)).toNat := by
  obtain ⟨h1, h2, h3, h4, h5⟩ := twice_fit hw
  unfold wideL
  rw [List.length_map, h4]
  split <;> simp only [List.length_drop, List.length_take, listF_length, h5] <;> omega
theorem ext_fits {w : Int} (hw : inW w = true) (s : Bool) {y : BitVec 64} (hf : fitF w y = true) : fitF (2 * w) (extN w (2 * w) s y) = true := by
  obtain ⟨h1, h2, h3, h4, h5⟩ := twice_fit hw
  have : okE w (2 * w) y = true := by
    have : ¬ (2 * w < w) := by omega
    simp [okE, hf, h2, this]
  unfold extN extF
  rw [this]
  show fitF _ (if s = true then _ else _) = true
  split
  · exact fit_and h2 _
  · refine fit_of_nat h2 ?_
    have h6 := (fitF_nat hf).2
    have : pw w ≤ pw (2 * w) := by rcases inW_cases hw with rfl | rfl | rfl <;> decide
    omega
theorem okOf_wide {w : Int} (hw : inW w = true) (s h : Bool) (a0 a1 : BitVec 64) : okOf (2 * w) (wideL extN w s h a0 a1) = true := by
  obtain ⟨h1, h2, h3, h4, h5⟩ := twice_fit hw
  simp only [okOf, h2, wide_len extN hw, decide_true, Bool.true_and, List.all_eq_true]
  intro z hz
  obtain ⟨y, hy, rfl⟩ := wide_mem hz
  exact decide_eq_true (le_of_fit (ext_fits hw s (list_fit h1 y hy)))
theorem t_vWide : Snd 34 (VwideS extN) := by
  refine Sound.of_pt fun ds d hd => ?_
  split at hd
  · rename_i w s h a0 a1
    cases hd
    cases hw : inW w
    · refine (execFn_sound (ann := fun _ => []) (TableOK.cons t_vwide.right TableOK.nil) mixed Tryd.func34 (by kernel_rfl) 50).pt ((vWide_no extN w s h a0 a1).trans ?_)
      rw [hw]; rfl
    · have S := execFn_sound (P := Tryd.prog) (G := G0) (ann := fun _ => []) (TableOK.cons t_vwide.left (TableOK.cons (OfJ Of30) TableOK.nil)) mixed Tryd.func34 (by kernel_rfl) 50
      have hk := okOf_wide hw s h a0 a1
      rcases inW_cases hw with rfl | rfl | rfl <;> cases h
      · exact S.pt ((vWide_8f extN s a0 a1).trans (by rw [show okOf 16 (wideL extN 8 s false a0 a1) = true from hk]; rfl))
      · exact S.pt ((vWide_8t extN s a0 a1).trans (by rw [show okOf 16 (wideL extN 8 s true a0 a1) = true from hk]; rfl))
      · exact S.pt ((vWide_16f extN s a0 a1).trans (by rw [show okOf 32 (wideL extN 16 s false a0 a1) = true from hk]; rfl))
      · exact S.pt ((vWide_16t extN s a0 a1).trans (by rw [show okOf 32 (wideL extN 16 s true a0 a1) = true from hk]; rfl))
      · exact S.pt ((vWide_32f extN s a0 a1).trans (by rw [show okOf 64 (wideL extN 32 s false a0 a1) = true from hk]; rfl))
      · exact S.pt ((vWide_32t extN s a0 a1).trans (by rw [show okOf 64 (wideL extN 32 s true a0 a1) = true from hk]; rfl))
  · cases hd
theorem t_rvWide : Snd 35 (VwideS extN) := by
  refine Sound.of_pt fun ds d hd => ?_
  split at hd
  · rename_i w s h a0 a1
    cases hd
    cases hw : inW w
    · exact (execFn_sound (ann := fun _ => []) TableOK.nil mixed Tryd.func35 (by kernel_rfl) 50).pt ((rWide_no w s h a0 a1).trans (inW_no hw))
    · have S := execFn_sound (P := Tryd.prog) (G := G0) (ann := fun _ => []) (TableOK.cons t_rwide (TableOK.cons vec45 TableOK.nil)) mixed Tryd.func35 (by kernel_rfl) 50
      rcases inW_cases hw with rfl | rfl | rfl <;> cases h
      · exact S.pt (rWide_8f extN s a0 a1)
      · exact S.pt (rWide_8t extN s a0 a1)
      · exact S.pt (rWide_16f extN s a0 a1)
      · exact S.pt (rWide_16t extN s a0 a1)
      · exact S.pt (rWide_32f extN s a0 a1)
      · exact S.pt (rWide_32t extN s a0 a1)
  · cases hd
end Go.L07

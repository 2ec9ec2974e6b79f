/-
  Part of the proof; what its functions and lemmas say stands in the text.
-/
import Derived.Test.YtnbafdmlfpmfkaaGreatDoorV23B
import Derived.Test.YtnbafdmlfpmfkaaGreatDoorR23
set_option linter.unusedSimpArgs false
set_option linter.unusedVariables false
/-!
Vectors of whole numbers: lanes widened.
-/
set_option maxRecDepth 100000
namespace Go.L23
open Go.Ev Go.Proofs Go.RowKit Go.Wh

theorem le_of_fit {w : Int} {x : BitVec 64} (h : fitF w x = true) : x ≤ maskF w := by
  simp only [fitF, Bool.and_eq_true, decide_eq_true_eq] at h
  exact h.2
def eachB (ok : Bool) (w : Int) (l : List (BitVec 64)) : D := .tup [vec (ifF ok (vecF w l).1) (ifF ok (vecF w l).2), .i .i64 (errF ok)]
theorem list_fit {x y : BitVec 64} {w : Int} (h : okW w = true) : ∀ z ∈ listF x y w, fitF w z = true := by
  intro z hz
  have := okOf_list x y h
  simp only [okOf, Bool.and_eq_true, List.all_eq_true] at this
  simp only [fitF, h, Bool.true_and]
  exact this.2 z hz
abbrev BX := Int → Int → Bool → BitVec 64 → BitVec 64
abbrev EX := Int → Int → Bool → BitVec 64 → Int
noncomputable def ConG (X : BX) (Y : EX) : Ev.Spec := joined fun | [.i .i64 f, .i .i64 t, .bool s, .u64 a] => some (.tup [.u64 (X f t s a), .i .i64 (Y f t s a)]) | _ => none
def extN (f t : Int) (s : Bool) (a : BitVec 64) : BitVec 64 := ifF (okE f t a) (extF f t s a)
def extR (f t : Int) (_ : Bool) (a : BitVec 64) : Int := errF (okE f t a)
theorem c_Ext : Snd 29 (ConG extN extR) := t_Extend
theorem c_rExt : Snd 42 (ConG extN extR) := t_rExtend
/-! widened -/
def inW (w : Int) : Bool := w == 8 || w == 16 || w == 32
theorem inW_cases {w : Int} (h : inW w = true) : w = 8 ∨ w = 16 ∨ w = 32 := by simpa [inW, or_assoc] using h
def wideL (X : BX) (w : Int) (s h : Bool) (a0 a1 : BitVec 64) : List (BitVec 64) := (if h = true then (listF a0 a1 w).drop (64 / w).toNat else (listF a0 a1 w).take (64 / w).toNat).map (X w (2 * w) s)
def wideF (X : BX) : List D → Option (Bool × D × D)
  | [.i .i64 w, .bool s, .bool h, .agg [.u64 a0, .u64 a1]] => some (inW w, .tup [.sl64 (wideL X w s h a0 a1), .i .i64 0], .tup [nilS, .i .i64 2])
  | _ => none
noncomputable def VwideS (X : BX) : Ev.Spec := joined fun | [.i .i64 w, .bool s, .bool h, .agg [.u64 a0, .u64 a1]] => some (eachB (inW w) (2 * w) (wideL X w s h a0 a1)) | _ => none
def annw : Nat → List Nat := fun | 9 => [0, 1, 10, 42, 43, 44] | _ => []
theorem vwide_8t (X : BX) (Y : EX) (s : Bool) (a0 a1 : BitVec 64) : ex [(182, left allF), (29, ConG X Y)] annw Tryz.f78 [.i .i64 8, .bool s, .bool true, vec a0 a1] some =
  some (.tup [.sl64 (wideL X 8 s true a0 a1), .i .i64 0]) := by kernel_rfl
theorem vWide_8t (X : BX) (s : Bool) (a0 a1 : BitVec 64) : ex [(78, left (wideF X)), (79, OfS)] (fun _ => []) Tryz.f30 [.i .i64 8, .bool s, .bool true, vec a0 a1] some =
  some (eachB (okOf 16 (wideL X 8 s true a0 a1)) 16 (wideL X 8 s true a0 a1)) := by kernel_rfl
theorem vwide_8f (X : BX) (Y : EX) (s : Bool) (a0 a1 : BitVec 64) : ex [(182, left allF), (29, ConG X Y)] annw Tryz.f78 [.i .i64 8, .bool s, .bool false, vec a0 a1] some =
  some (.tup [.sl64 (wideL X 8 s false a0 a1), .i .i64 0]) := by kernel_rfl
theorem vWide_8f (X : BX) (s : Bool) (a0 a1 : BitVec 64) : ex [(78, left (wideF X)), (79, OfS)] (fun _ => []) Tryz.f30 [.i .i64 8, .bool s, .bool false, vec a0 a1] some =
  some (eachB (okOf 16 (wideL X 8 s false a0 a1)) 16 (wideL X 8 s false a0 a1)) := by kernel_rfl
theorem vwide_16t (X : BX) (Y : EX) (s : Bool) (a0 a1 : BitVec 64) : ex [(182, left allF), (29, ConG X Y)] annw Tryz.f78 [.i .i64 16, .bool s, .bool true, vec a0 a1] some =
  some (.tup [.sl64 (wideL X 16 s true a0 a1), .i .i64 0]) := by kernel_rfl
theorem vWide_16t (X : BX) (s : Bool) (a0 a1 : BitVec 64) : ex [(78, left (wideF X)), (79, OfS)] (fun _ => []) Tryz.f30 [.i .i64 16, .bool s, .bool true, vec a0 a1] some =
  some (eachB (okOf 32 (wideL X 16 s true a0 a1)) 32 (wideL X 16 s true a0 a1)) := by kernel_rfl
theorem vwide_16f (X : BX) (Y : EX) (s : Bool) (a0 a1 : BitVec 64) : ex [(182, left allF), (29, ConG X Y)] annw Tryz.f78 [.i .i64 16, .bool s, .bool false, vec a0 a1] some =
  some (.tup [.sl64 (wideL X 16 s false a0 a1), .i .i64 0]) := by kernel_rfl
theorem vWide_16f (X : BX) (s : Bool) (a0 a1 : BitVec 64) : ex [(78, left (wideF X)), (79, OfS)] (fun _ => []) Tryz.f30 [.i .i64 16, .bool s, .bool false, vec a0 a1] some =
  some (eachB (okOf 32 (wideL X 16 s false a0 a1)) 32 (wideL X 16 s false a0 a1)) := by kernel_rfl
theorem vwide_32t (X : BX) (Y : EX) (s : Bool) (a0 a1 : BitVec 64) : ex [(182, left allF), (29, ConG X Y)] annw Tryz.f78 [.i .i64 32, .bool s, .bool true, vec a0 a1] some =
  some (.tup [.sl64 (wideL X 32 s true a0 a1), .i .i64 0]) := by kernel_rfl
theorem vWide_32t (X : BX) (s : Bool) (a0 a1 : BitVec 64) : ex [(78, left (wideF X)), (79, OfS)] (fun _ => []) Tryz.f30 [.i .i64 32, .bool s, .bool true, vec a0 a1] some =
  some (eachB (okOf 64 (wideL X 32 s true a0 a1)) 64 (wideL X 32 s true a0 a1)) := by kernel_rfl
theorem vwide_32f (X : BX) (Y : EX) (s : Bool) (a0 a1 : BitVec 64) : ex [(182, left allF), (29, ConG X Y)] annw Tryz.f78 [.i .i64 32, .bool s, .bool false, vec a0 a1] some =
  some (.tup [.sl64 (wideL X 32 s false a0 a1), .i .i64 0]) := by kernel_rfl
theorem vWide_32f (X : BX) (s : Bool) (a0 a1 : BitVec 64) : ex [(78, left (wideF X)), (79, OfS)] (fun _ => []) Tryz.f30 [.i .i64 32, .bool s, .bool false, vec a0 a1] some =
  some (eachB (okOf 64 (wideL X 32 s false a0 a1)) 64 (wideL X 32 s false a0 a1)) := by kernel_rfl
theorem vwide_no (w : Int) (s h : Bool) (a0 a1 : BitVec 64) : ex [] (fun _ => []) Tryz.f78 [.i .i64 w, .bool s, .bool h, vec a0 a1] some =
  if (!(w == 8)) = true then if (!(w == 16)) = true then if (!(w == 32)) = true then some (.tup [nilS, .i .i64 2]) else none else none else none := by kernel_rfl
theorem vWide_no (X : BX) (w : Int) (s h : Bool) (a0 a1 : BitVec 64) : ex [(78, right (wideF X))] (fun _ => []) Tryz.f30 [.i .i64 w, .bool s, .bool h, vec a0 a1] some =
  if (!inW w) = true then some ofErr else none := by kernel_rfl
theorem inW_no {w : Int} (h : inW w = false) {x : D} : (if (!(w == 8)) = true then if (!(w == 16)) = true then if (!(w == 32)) = true then some x else none else none else none) = some x := by
  simp only [inW, Bool.or_eq_false_iff] at h
  simp [h.1.1, h.1.2, h.2]
theorem t_vwide : Snd 78 (two (wideF extN)) := by
  refine Sound.of_ptT fun ds b d e hF => ?_
  unfold wideF at hF
  split at hF
  · rename_i w s h a0 a1
    simp only [Option.some.injEq, Prod.mk.injEq] at hF
    obtain ⟨hw, rfl, rfl⟩ := hF
    cases b
    · exact (execFn_sound (ann := fun _ => []) TableOK.nil mixed Tryz.func78 (by kernel_rfl) 50).pt ((vwide_no w s h a0 a1).trans (inW_no hw))
    · have S := execFn_sound (P := Tryz.prog) (G := G0) (ann := annw) (TableOK.cons All28.left (TableOK.cons c_Ext TableOK.nil)) mixed Tryz.func78 (by kernel_rfl) 50
      rcases inW_cases hw with rfl | rfl | rfl <;> cases h
      · exact S.pt (vwide_8f extN extR s a0 a1)
      · exact S.pt (vwide_8t extN extR s a0 a1)
      · exact S.pt (vwide_16f extN extR s a0 a1)
      · exact S.pt (vwide_16t extN extR s a0 a1)
      · exact S.pt (vwide_32f extN extR s a0 a1)
      · exact S.pt (vwide_32t extN extR s a0 a1)
  · cases hF
theorem twice_fit {w : Int} (hw : inW w = true) : okW w = true ∧ okW (2 * w) = true ∧ w < 2 * w ∧ (128 / (2 * w)).toNat = (64 / w).toNat ∧ (128 / w).toNat = (64 / w).toNat + (64 / w).toNat := by
  rcases inW_cases hw with rfl | rfl | rfl <;> decide
theorem pw_twice {w : Int} (hw : inW w = true) : pw (2 * w) = pw w * pw w := by
  rcases inW_cases hw with rfl | rfl | rfl <;> decide
theorem wide_mem {X : BX} {w : Int} {s h : Bool} {a0 a1 : BitVec 64} {z : BitVec 64} (hz : z ∈ wideL X w s h a0 a1) : ∃ y ∈ listF a0 a1 w, z = X w (2 * w) s y := by
  simp only [wideL, List.mem_map] at hz
  obtain ⟨y, hy, rfl⟩ := hz
  refine ⟨y, ?_, rfl⟩
  split at hy
  · exact List.mem_of_mem_drop hy
  · exact List.mem_of_mem_take hy
theorem wide_len (X : BX) {w : Int} (hw : inW w = true) (s h : Bool) (a0 a1 : BitVec 64) : (wideL X w s h a0 a1).length = (128 / (2 * w)).toNat := by
  obtain ⟨h1, h2, h3, h4, h5⟩ := twice_fit hw
  unfold wideL
  rw [List.length_map, h4]
  split <;> simp only [List.length_drop, List.length_take, listF_length, h5] <;> omega
theorem ext_fits {w : Int} (hw : inW w = true) (s : Bool) {y : BitVec 64} (hf : fitF w y = true) : fitF (2 * w) (extN w (2 * w) s y) = true := by
  obtain ⟨h1, h2, h3, h4, h5⟩ := twice_fit hw
  have : okE w (2 * w) y = true := by
    have : ¬ (2 * w < w) := by omega
    simp [okE, hf, h2, this]
  unfold extN extF
  rw [this]
  show fitF _ (if s = true then _ else _) = true
  split
  · exact fit_and h2 _
  · refine fit_of_nat h2 ?_
    have h6 := (fitF_nat hf).2
    have : pw w ≤ pw (2 * w) := by rcases inW_cases hw with rfl | rfl | rfl <;> decide
    omega
theorem okOf_wide {w : Int} (hw : inW w = true) (s h : Bool) (a0 a1 : BitVec 64) : okOf (2 * w) (wideL extN w s h a0 a1) = true := by
  obtain ⟨h1, h2, h3, h4, h5⟩ := twice_fit hw
  simp only [okOf, h2, wide_len extN hw, decide_true, Bool.true_and, List.all_eq_true]
  intro z hz
  obtain ⟨y, hy, rfl⟩ := wide_mem hz
  exact decide_eq_true (le_of_fit (ext_fits hw s (list_fit h1 y hy)))
theorem t_vWide : Snd 30 (VwideS extN) := by
  refine Sound.of_pt fun ds d hd => ?_
  split at hd
  · rename_i w s h a0 a1
    cases hd
    cases hw : inW w
    · refine (execFn_sound (ann := fun _ => []) (TableOK.cons t_vwide.right TableOK.nil) mixed Tryz.func30 (by kernel_rfl) 50).pt ((vWide_no extN w s h a0 a1).trans ?_)
      rw [hw]; rfl
    · have S := execFn_sound (P := Tryz.prog) (G := G0) (ann := fun _ => []) (TableOK.cons t_vwide.left (TableOK.cons (OfJ Of30) TableOK.nil)) mixed Tryz.func30 (by kernel_rfl) 50
      have hk := okOf_wide hw s h a0 a1
      rcases inW_cases hw with rfl | rfl | rfl <;> cases h
      · exact S.pt ((vWide_8f extN s a0 a1).trans (by rw [show okOf 16 (wideL extN 8 s false a0 a1) = true from hk]; rfl))
      · exact S.pt ((vWide_8t extN s a0 a1).trans (by rw [show okOf 16 (wideL extN 8 s true a0 a1) = true from hk]; rfl))
      · exact S.pt ((vWide_16f extN s a0 a1).trans (by rw [show okOf 32 (wideL extN 16 s false a0 a1) = true from hk]; rfl))
      · exact S.pt ((vWide_16t extN s a0 a1).trans (by rw [show okOf 32 (wideL extN 16 s true a0 a1) = true from hk]; rfl))
      · exact S.pt ((vWide_32f extN s a0 a1).trans (by rw [show okOf 64 (wideL extN 32 s false a0 a1) = true from hk]; rfl))
      · exact S.pt ((vWide_32t extN s a0 a1).trans (by rw [show okOf 64 (wideL extN 32 s true a0 a1) = true from hk]; rfl))
  · cases hd

/-! the document's -/
noncomputable def spreadS : Ev.Spec := guarded fun | [.agg [.u64 b0, .u64 b1], .i .i64 w, .bool s] => some (inW w, vec (vecF (2 * w) (wideL extN w s false b0 b1)).1 (vecF (2 * w) (wideL extN w s false b0 b1)).2) | _ => none
def annsp : Nat → List Nat := fun | 4 => [1, 2, 6, 7, 8, 9] | _ => []
theorem spread_8 (X : BX) (Y : EX) (s : Bool) (b0 b1 : BitVec 64) : ex [(82, listS), (42, ConG X Y), (83, vecS)] annsp Tryz.f35 [vec b0 b1, .i .i64 8, .bool s] some =
  some (vec (vecF 16 (wideL X 8 s false b0 b1)).1 (vecF 16 (wideL X 8 s false b0 b1)).2) := by kernel_rfl
theorem spread_16 (X : BX) (Y : EX) (s : Bool) (b0 b1 : BitVec 64) : ex [(82, listS), (42, ConG X Y), (83, vecS)] annsp Tryz.f35 [vec b0 b1, .i .i64 16, .bool s] some =
  some (vec (vecF 32 (wideL X 16 s false b0 b1)).1 (vecF 32 (wideL X 16 s false b0 b1)).2) := by kernel_rfl
theorem spread_32 (X : BX) (Y : EX) (s : Bool) (b0 b1 : BitVec 64) : ex [(82, listS), (42, ConG X Y), (83, vecS)] annsp Tryz.f35 [vec b0 b1, .i .i64 32, .bool s] some =
  some (vec (vecF 64 (wideL X 32 s false b0 b1)).1 (vecF 64 (wideL X 32 s false b0 b1)).2) := by kernel_rfl
theorem t_spread : Snd 35 spreadS := by
  refine Sound.of_ptG fun ds d hd => ?_
  split at hd
  · rename_i b0 b1 w s
    simp only [Option.some.injEq, Prod.mk.injEq] at hd
    obtain ⟨hw, rfl⟩ := hd
    have S := execFn_sound (P := Tryz.prog) (G := G0) (ann := annsp) (TableOK.cons list35 (TableOK.cons c_rExt (TableOK.cons vec45 TableOK.nil))) mixed Tryz.func35 (by kernel_rfl) 50
    rcases inW_cases hw with rfl | rfl | rfl
    · exact S.pt (spread_8 extN extR s b0 b1)
    · exact S.pt (spread_16 extN extR s b0 b1)
    · exact S.pt (spread_32 extN extR s b0 b1)
  · cases hd
end Go.L23

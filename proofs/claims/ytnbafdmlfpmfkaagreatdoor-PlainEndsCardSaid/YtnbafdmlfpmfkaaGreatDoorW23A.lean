/-
  Part of the proof; what its functions and lemmas say stands in the text.
-/
import Derived.Test.YtnbafdmlfpmfkaaGreatDoorV23B
import Derived.Test.YtnbafdmlfpmfkaaGreatDoorR23
import Derived.Test.YtnbafdmlfpmfkaaGreatDoorR23F
import Derived.Test.YtnbafdmlfpmfkaaGreatDoorWhD
set_option linter.unusedSimpArgs false
set_option linter.unusedVariables false
set_option maxRecDepth 100000
namespace Go.L23
open Go.Ev Go.Proofs Go.RowKit Go.Wh
theorem le_of_fit {w : Int} {x : BitVec 64} (h : fitF w x = true) : x ≤ maskF w := by
 simp only [fitF, Bool.and_eq_true, decide_eq_true_eq] at h
 exact h.2
def eachB (ok : Bool) (w : Int) (l : List (BitVec 64)) : D := .tup [vec (ifF ok (vecF w l).1) (ifF ok (vecF w l).2), .i .i64 (errF ok)]
theorem list_fit {x y : BitVec 64} {w : Int} (h : okW w = true) : ∀ z ∈ listF x y w, fitF w z = true := by
 intro z hz
 have := okOf_list x y h
 simp only [okOf, Bool.and_eq_true, List.all_eq_true] at this
 simp only [fitF, h, Bool.true_and]
 exact this.2 z hz
abbrev BX := Int → Int → Bool → BitVec 64 → BitVec 64
abbrev EX := Int → Int → Bool → BitVec 64 → Int
noncomputable def ConG (X : BX) (Y : EX) : Ev.Spec := joined fun | [.i .i64 f, .i .i64 t, .bool s, .u64 a] => some (.tup [.u64 (X f t s a), .i .i64 (Y f t s a)]) | _ => none
def extN (f t : Int) (s : Bool) (a : BitVec 64) : BitVec 64 := ifF (okE f t a) (extF f t s a)
def extR (f t : Int) (_ : Bool) (a : BitVec 64) : Int := errF (okE f t a)
theorem c_Ext : Snd 29 (ConG extN extR) := t_Extend
def inW (w : Int) : Bool := w == 8 || w == 16 || w == 32
theorem inW_cases {w : Int} (h : inW w = true) : w = 8 ∨ w = 16 ∨ w = 32 := by simpa [inW, or_assoc] using h
def wideL (X : BX) (w : Int) (s h : Bool) (a0 a1 : BitVec 64) : List (BitVec 64) := (if h = true then (listF a0 a1 w).drop (64 / w).toNat else (listF a0 a1 w).take (64 / w).toNat).map (X w (2 * w) s)
def wideF (X : BX) : List D → Option (Bool × D × D)
 | [.i .i64 w, .bool s, .bool h, .agg [.u64 a0, .u64 a1]] => some (inW w, .tup [.sl64 (wideL X w s h a0 a1), .i .i64 0], .tup [nilS, .i .i64 2])
 | _ => none
noncomputable def VwideS (X : BX) : Ev.Spec := joined fun | [.i .i64 w, .bool s, .bool h, .agg [.u64 a0, .u64 a1]] => some (eachB (inW w) (2 * w) (wideL X w s h a0 a1)) | _ => none
def annw : Nat → List Nat := fun | 9 => [0, 1, 10, 42, 43, 44] | _ => []
theorem vwide_8t (X : BX) (Y : EX) (s : Bool) (a0 a1 : BitVec 64) : ex [(182, left allF), (29, ConG X Y)] annw Tryz.f78 [.i .i64 8, .bool s, .bool true, vec a0 a1] some =
 some (.tup [.sl64 (wideL X 8 s true a0 a1), .i .i64 0]) := by kernel_rfl
theorem vWide_8t (X : BX) (s : Bool) (a0 a1 : BitVec 64) : ex [(78, left (wideF X)), (79, OfS)] (fun _ => []) Tryz.f30 [.i .i64 8, .bool s, .bool true, vec a0 a1] some =
 some (eachB (okOf 16 (wideL X 8 s true a0 a1)) 16 (wideL X 8 s true a0 a1)) := by kernel_rfl
theorem vwide_8f (X : BX) (Y : EX) (s : Bool) (a0 a1 : BitVec 64) : ex [(182, left allF), (29, ConG X Y)] annw Tryz.f78 [.i .i64 8, .bool s, .bool false, vec a0 a1] some =
 some (.tup [.sl64 (wideL X 8 s false a0 a1), .i .i64 0]) := by kernel_rfl
theorem vWide_8f (X : BX) (s : Bool) (a0 a1 : BitVec 64) : ex [(78, left (wideF X)), (79, OfS)] (fun _ => []) Tryz.f30 [.i .i64 8, .bool s, .bool false, vec a0 a1] some =
 some (eachB (okOf 16 (wideL X 8 s false a0 a1)) 16 (wideL X 8 s false a0 a1)) := by kernel_rfl
theorem vwide_16t (X : BX) (Y : EX) (s : Bool) (a0 a1 : BitVec 64) : ex [(182, left allF), (29, ConG X Y)] annw Tryz.f78 [.i .i64 16, .bool s, .bool true, vec a0 a1] some =
 some (.tup [.sl64 (wideL X 16 s true a0 a1), .i .i64 0]) := by kernel_rfl
theorem vWide_16t (X : BX) (s : Bool) (a0 a1 : BitVec 64) : ex [(78, left (wideF X)), (79, OfS)] (fun _ => []) Tryz.f30 [.i .i64 16, .bool s, .bool true, vec a0 a1] some =
 some (eachB (okOf 32 (wideL X 16 s true a0 a1)) 32 (wideL X 16 s true a0 a1)) := by kernel_rfl
theorem vwide_16f (X : BX) (Y : EX) (s : Bool) (a0 a1 : BitVec 64) : ex [(182, left allF), (29, ConG X Y)] annw Tryz.f78 [.i .i64 16, .bool s, .bool false, vec a0 a1] some =
 some (.tup [.sl64 (wideL X 16 s false a0 a1), .i .i64 0]) := by kernel_rfl
theorem vWide_16f (X : BX) (s : Bool) (a0 a1 : BitVec 64) : ex [(78, left (wideF X)), (79, OfS)] (fun _ => []) Tryz.f30 [.i .i64 16, .bool s, .bool false, vec a0 a1] some =
 some (eachB (okOf 32 (wideL X 16 s false a0 a1)) 32 (wideL X 16 s false a0 a1)) := by kernel_rfl
theorem vwide_32t (X : BX) (Y : EX) (s : Bool) (a0 a1 : BitVec 64) : ex [(182, left allF), (29, ConG X Y)] annw Tryz.f78 [.i .i64 32, .bool s, .bool true, vec a0 a1] some =
 some (.tup [.sl64 (wideL X 32 s true a0 a1), .i .i64 0]) := by kernel_rfl
theorem vWide_32t (X : BX) (s : Bool) (a0 a1 : BitVec 64) : ex [(78, left (wideF X)), (79, OfS)] (fun _ => []) Tryz.f30 [.i .i64 32, .bool s, .bool true, vec a0 a1] some =
 some (eachB (okOf 64 (wideL X 32 s true a0 a1)) 64 (wideL X 32 s true a0 a1)) := by kernel_rfl
theorem vwide_32f (X : BX) (Y : EX) (s : Bool) (a0 a1 : BitVec 64) : ex [(182, left allF), (29, ConG X Y)] annw Tryz.f78 [.i .i64 32, .bool s, .bool false, vec a0 a1] some =
 some (.tup [.sl64 (wideL X 32 s false a0 a1), .i .i64 0]) := by kernel_rfl
theorem vWide_32f (X : BX) (s : Bool) (a0 a1 : BitVec 64) : ex [(78, left (wideF X)), (79, OfS)] (fun _ => []) Tryz.f30 [.i .i64 32, .bool s, .bool false, vec a0 a1] some =
 some (eachB (okOf 64 (wideL X 32 s false a0 a1)) 64 (wideL X 32 s false a0 a1)) := by kernel_rfl
theorem vwide_no (w : Int) (s h : Bool) (a0 a1 : BitVec 64) : ex [] (fun _ => []) Tryz.f78 [.i .i64 w, .bool s, .bool h, vec a0 a1] some =
 if (!(w == 8)) = true then if (!(w == 16)) = true then if (!(w == 32)) = true then some (.tup [nilS, .i .i64 2]) else none else none else none := by kernel_rfl
theorem vWide_no (X : BX) (w : Int) (s h : Bool) (a0 a1 : BitVec 64) : ex [(78, right (wideF X))] (fun _ => []) Tryz.f30 [.i .i64 w, .bool s, .bool h, vec a0 a1] some =
 if (!inW w) = true then some ofErr else none := by kernel_rfl
theorem inW_no {w : Int} (h : inW w = false) {x : D} : (if (!(w == 8)) = true then if (!(w == 16)) = true then if (!(w == 32)) = true then some x else none else none else none) = some x := by
 simp only [inW, Bool.or_eq_false_iff] at h
 simp [h.1.1, h.1.2, h.2]
theorem t_vwide : Snd 78 (two (wideF extN)) := by
 refine Sound.of_ptT fun ds b d e hF => ?_
 unfold wideF at hF
 split at hF
 ·rename_i w s h a0 a1
  simp only [Option.some.injEq, Prod.mk.injEq] at hF
  obtain ⟨hw, rfl, rfl⟩ := hF
  cases b
  ·exact (execFn_sound (ann := fun _ => []) TableOK.nil mixed Tryz.func78 (by kernel_rfl) 50).pt ((vwide_no w s h a0 a1).trans (inW_no hw))
  ·have S := execFn_sound (P := Tryz.prog) (G := G0) (ann := annw) (TableOK.cons All28.left (TableOK.cons c_Ext TableOK.nil)) mixed Tryz.func78 (by kernel_rfl) 50
   rcases inW_cases hw with rfl | rfl | rfl <;> cases h
   ·exact S.pt (vwide_8f extN extR s a0 a1)
   ·exact S.pt (vwide_8t extN extR s a0 a1)
   ·exact S.pt (vwide_16f extN extR s a0 a1)
   ·exact S.pt (vwide_16t extN extR s a0 a1)
   ·exact S.pt (vwide_32f extN extR s a0 a1)
   ·exact S.pt (vwide_32t extN extR s a0 a1)
 ·cases hF
theorem twice_fit {w : Int} (hw : inW w = true) : okW w = true ∧ okW (2 * w) = true ∧ w < 2 * w ∧ (128 / (2 * w)).toNat = (64 / w).toNat ∧ (128 / w).toNat = (64 / w).toNat + (64 / w).toNat := by
 rcases inW_cases hw with rfl | rfl | rfl <;> decide
theorem wide_mem {X : BX} {w : Int} {s h : Bool} {a0 a1 : BitVec 64} {z : BitVec 64} (hz : z ∈ wideL X w s h a0 a1) : ∃ y ∈ listF a0 a1 w, z = X w (2 * w) s y := by
 simp only [wideL, List.mem_map] at hz
 obtain ⟨y, hy, rfl⟩ := hz
 refine ⟨y, ?_, rfl⟩
 split at hy
 ·exact List.mem_of_mem_drop hy
 ·exact List.mem_of_mem_take hy
theorem wide_len (X : BX) {w : Int} (hw : inW w = true) (s h : Bool) (a0 a1 : BitVec 64) : (wideL X w s h a0 a1).length = (128 / (2 * w)).toNat := by
 obtain ⟨h1, h2, h3, h4, h5⟩ := twice_fit hw
 unfold wideL
 rw [List.length_map, h4]
 split <;> simp only [List.length_drop, List.length_take, listF_length, h5] <;> omega
theorem ext_fits {w : Int} (hw : inW w = true) (s : Bool) {y : BitVec 64} (hf : fitF w y = true) : fitF (2 * w) (extN w (2 * w) s y) = true := by
 obtain ⟨h1, h2, h3, h4, h5⟩ := twice_fit hw
 have : okE w (2 * w) y = true := by
  have : ¬ (2 * w < w) := by omega
  simp [okE, hf, h2, this]
 unfold extN extF
 rw [this]
 show fitF _ (if s = true then _ else _) = true
 split
 ·exact fit_and h2 _
 ·refine fit_of_nat h2 ?_
  have h6 := (fitF_nat hf).2
  have : pw w ≤ pw (2 * w) := by rcases inW_cases hw with rfl | rfl | rfl <;> decide
  omega
theorem okOf_wide {w : Int} (hw : inW w = true) (s h : Bool) (a0 a1 : BitVec 64) : okOf (2 * w) (wideL extN w s h a0 a1) = true := by
 obtain ⟨h1, h2, h3, h4, h5⟩ := twice_fit hw
 simp only [okOf, h2, wide_len extN hw, decide_true, Bool.true_and, List.all_eq_true]
 intro z hz
 obtain ⟨y, hy, rfl⟩ := wide_mem hz
 exact decide_eq_true (le_of_fit (ext_fits hw s (list_fit h1 y hy)))
theorem t_vWide : Snd 30 (VwideS extN) := by
 refine Sound.of_pt fun ds d hd => ?_
 split at hd
 ·rename_i w s h a0 a1
  cases hd
  cases hw : inW w
  ·refine (execFn_sound (ann := fun _ => []) (TableOK.cons t_vwide.right TableOK.nil) mixed Tryz.func30 (by kernel_rfl) 50).pt ((vWide_no extN w s h a0 a1).trans ?_)
   rw [hw]; rfl
  ·have S := execFn_sound (P := Tryz.prog) (G := G0) (ann := fun _ => []) (TableOK.cons t_vwide.left (TableOK.cons (OfJ Of30) TableOK.nil)) mixed Tryz.func30 (by kernel_rfl) 50
   have hk := okOf_wide hw s h a0 a1
   rcases inW_cases hw with rfl | rfl | rfl <;> cases h
   ·exact S.pt ((vWide_8f extN s a0 a1).trans (by rw [show okOf 16 (wideL extN 8 s false a0 a1) = true from hk]; rfl))
   ·exact S.pt ((vWide_8t extN s a0 a1).trans (by rw [show okOf 16 (wideL extN 8 s true a0 a1) = true from hk]; rfl))
   ·exact S.pt ((vWide_16f extN s a0 a1).trans (by rw [show okOf 32 (wideL extN 16 s false a0 a1) = true from hk]; rfl))
   ·exact S.pt ((vWide_16t extN s a0 a1).trans (by rw [show okOf 32 (wideL extN 16 s true a0 a1) = true from hk]; rfl))
   ·exact S.pt ((vWide_32f extN s a0 a1).trans (by rw [show okOf 64 (wideL extN 32 s false a0 a1) = true from hk]; rfl))
   ·exact S.pt ((vWide_32t extN s a0 a1).trans (by rw [show okOf 64 (wideL extN 32 s true a0 a1) = true from hk]; rfl))
 ·cases hd
end Go.L23
namespace Go.L23
open Go.Ev Go.Proofs Go.RowKit Go.Wh
abbrev B1 := BitVec 8 → Int → BitVec 64 → BitVec 64
abbrev E1 := BitVec 8 → Int → BitVec 64 → Int
abbrev B2 := BitVec 8 → Int → BitVec 64 → BitVec 64 → BitVec 64
abbrev E2 := BitVec 8 → Int → BitVec 64 → BitVec 64 → Int
abbrev C2 := BitVec 8 → Int → BitVec 64 → BitVec 64 → Bool
noncomputable def ThanH (C : C2) (E : E2) : Ev.Spec := joined fun | [.u8 o, .i .i64 w, .u64 a, .u64 b] => some (.tup [.bool (C o w a b), .i .i64 (E o w a b)]) | _ => none
noncomputable def clo2G (N : B2) (R : E2) : Ev.Spec := guarded fun | [.u64 x, .i .i64 i, .ref [.u8 o], .ref [.i .i64 w], .ref [.sl64 y]] => some (decide (0 ≤ i ∧ i < y.length), .tup [.u64 (N o w x (y.getD i.toNat 0#64)), .i .i64 (R o w x (y.getD i.toNat 0#64))]) | _ => none
noncomputable def clo1G (U : B1) (Q : E1) : Ev.Spec := joined fun | [.u64 x, .i .i64 _, .ref [.u8 o], .ref [.i .i64 w]] => some (.tup [.u64 (U o w x), .i .i64 (Q o w x)]) | _ => none
noncomputable def cloSG (N : B2) (R : E2) : Ev.Spec := guarded fun | [.u64 x, .i .i64 _, .ref [.u8 o], .ref [.i .i64 w], .ref [.u64 n]] => some (okW w, .tup [.u64 (N o w x (n % BitVec.ofInt 64 w)), .i .i64 (R o w x (n % BitVec.ofInt 64 w))]) | _ => none
def thV (C : C2) (E : E2) (o : BitVec 8) (w : Int) (a b : BitVec 64) : BitVec 64 := if (E o w a b == 0 && C o w a b) = true then maskF w else 0#64
noncomputable def cloTG (C : C2) (E : E2) : Ev.Spec := guarded fun | [.u64 x, .i .i64 i, .ref [.u8 o], .ref [.i .i64 w], .ref [.sl64 y]] => some (decide (0 ≤ i ∧ i < y.length), .tup [.u64 (thV C E o w x (y.getD i.toNat 0#64)), .i .i64 (E o w x (y.getD i.toNat 0#64))]) | _ => none
theorem clo2 {N : B2} {R : E2} (h : Snd 133 (TwoG N R)) : Snd 313 (clo2G N R) := by
 refine Sound.guard (execFn_sound (ann := fun _ => []) (TableOK.cons h TableOK.nil) mixed Tryz.func313 (by kernel_rfl) 50) fun ds d hd => ?_
 split at hd
 ·rename_i x i o w y
  simp only [Option.some.injEq, Prod.mk.injEq, decide_eq_true_eq] at hd
  obtain ⟨⟨h0, h1⟩, rfl⟩ := hd
  have nf : ex [(133, TwoG N R)] (fun _ => []) Tryz.f313 [.u64 x, .i .i64 i, .ref [.u8 o], .ref [.i .i64 w], .ref [.sl64 y]] some =
   if 0 ≤ i ∧ i < (y.length : Int) then if 0 + i.toNat * 1 < y.length then some (.tup [.u64 (N o w x (y.getD (0 + i.toNat * 1) 0#64)), .i .i64 (R o w x (y.getD (0 + i.toNat * 1) 0#64))]) else none else none := by kernel_rfl
  refine nf.trans ?_
  have e : 0 + i.toNat * 1 = i.toNat := by omega
  rw [if_pos ⟨h0, h1⟩, if_pos (by omega), e]
 ·cases hd
theorem clo1 {U : B1} {Q : E1} (h : Snd 132 (OneH U Q)) : Snd 314 (clo1G U Q) := by
 refine Sound.join (execFn_sound (ann := fun _ => []) (TableOK.cons h TableOK.nil) mixed Tryz.func314 (by kernel_rfl) 50) fun ds d hd => ?_
 split at hd
 ·cases hd; kernel_rfl
 ·cases hd
theorem cloS {N : B2} {R : E2} (h : Snd 133 (TwoG N R)) : Snd 315 (cloSG N R) := by
 refine Sound.guard (execFn_sound (ann := fun _ => []) (TableOK.cons h TableOK.nil) mixed Tryz.func315 (by kernel_rfl) 50) fun ds d hd => ?_
 split at hd
 ·rename_i x i o w n
  simp only [Option.some.injEq, Prod.mk.injEq] at hd
  obtain ⟨h0, rfl⟩ := hd
  have nf : ex [(133, TwoG N R)] (fun _ => []) Tryz.f315 [.u64 x, .i .i64 i, .ref [.u8 o], .ref [.i .i64 w], .ref [.u64 n]] some =
   if BitVec.ofInt 64 w = 0#64 then none else some (.tup [.u64 (N o w x (n % BitVec.ofInt 64 w)), .i .i64 (R o w x (n % BitVec.ofInt 64 w))]) := by kernel_rfl
  refine nf.trans (if_neg ?_)
  rcases okW_cases h0 with rfl | rfl | rfl | rfl <;> decide
 ·cases hd
theorem cloT {C : C2} {E : E2} (h : Snd 130 (ThanH C E)) : Snd 192 (cloTG C E) := by
 refine Sound.guard (execFn_sound (ann := fun _ => []) (TableOK.cons h TableOK.nil) mixed Tryz.func192 (by kernel_rfl) 50) fun ds d hd => ?_
 split at hd
 ·rename_i x i o w y
  simp only [Option.some.injEq, Prod.mk.injEq, decide_eq_true_eq] at hd
  obtain ⟨⟨h0, h1⟩, rfl⟩ := hd
  have nf : ex [(130, ThanH C E)] (fun _ => []) Tryz.f192 [.u64 x, .i .i64 i, .ref [.u8 o], .ref [.i .i64 w], .ref [.sl64 y]] some =
   if 0 ≤ i ∧ i < (y.length : Int) then if 0 + i.toNat * 1 < y.length then
    if (!(E o w x (y.getD (0 + i.toNat * 1) 0#64) == 0)) = false then if (!C o w x (y.getD (0 + i.toNat * 1) 0#64)) = true then some (.tup [.u64 0#64, .i .i64 (E o w x (y.getD (0 + i.toNat * 1) 0#64))]) else some (.tup [.u64 (maskF w), .i .i64 0])
    else some (.tup [.u64 0#64, .i .i64 (E o w x (y.getD (0 + i.toNat * 1) 0#64))]) else none else none := by kernel_rfl
  refine nf.trans ?_
  have e : 0 + i.toNat * 1 = i.toNat := by omega
  rw [if_pos ⟨h0, h1⟩, if_pos (by omega), e]
  unfold thV
  generalize hE : E o w x (y.getD i.toNat 0#64) = z
  generalize C o w x (y.getD i.toNat 0#64) = c
  by_cases hz : z = 0
  ·subst hz
   cases c <;> rfl
  ·have e1 : (z == 0) = false := by simp [hz]
   simp only [e1, Bool.false_and, Bool.not_false, Bool.true_eq_false, Bool.false_eq_true, if_false]
 ·cases hd
def okEach (w : Int) (rs : List Int) (l : List (BitVec 64)) : Bool := rs.all (fun r => r == 0) && okOf w l
def eachV (w : Int) (rs : List Int) (l : List (BitVec 64)) : D := eachB (okEach w rs l) w l
def chainR : List Int → Option D → Option D → Option D
 | [], _, a => a
 | r :: l, e, a => if (!(r == 0)) = true then e else chainR l e a
theorem chainR_eq : ∀ (l : List Int) (e a : Option D), chainR l e a = if l.all (fun r => r == 0) = true then a else e
 | [], _, _ => rfl
 | r :: l, e, a => by
  simp only [chainR, List.all_cons, chainR_eq l]
  have key : ∀ b c : Bool, (if (!b) = true then e else if c = true then a else e) = if (b && c) = true then a else e := by
   intro b c; cases b <;> cases c <;> rfl
  exact key _ _
theorem each_fin (w : Int) (rs : List Int) (l : List (BitVec 64)) : chainR rs (some ofErr) (some (eachB (okOf w l) w l)) = some (eachV w rs l) := by
 rw [chainR_eq]
 unfold eachV okEach
 cases rs.all fun r => r == 0
 ·rfl
 ·rfl
theorem each_no {w : Int} (h : okW w = false) (rs : List Int) (l : List (BitVec 64)) : eachV w rs l = ofErr := by
 have e : okEach w rs l = false := by simp [okEach, okOf, h]
 unfold eachV
 rw [e]; rfl
def annE : Nat → List Nat := fun | 5 => [0, 2, 6, 8, 24, 25, 26] | _ => []
theorem each2_8 (N : B2) (R : E2) (o : BitVec 8) (v : Int) (a0 a1 : BitVec 64) (y0 y1 y2 y3 y4 y5 y6 y7 y8 y9 y10 y11 y12 y13 y14 y15 : BitVec 64) : ex [(182, left allF), (313, clo2G N R), (79, OfS)] annE Tryz.f191 [.i .i64 8, vec a0 a1, .clo 313 [.ref [.u8 o], .ref [.i .i64 v], .ref [.sl64 [y0, y1, y2, y3, y4, y5, y6, y7, y8, y9, y10, y11, y12, y13, y14, y15]]]] some =
 chainR (List.zipWith (R o v) (listF a0 a1 8) [y0, y1, y2, y3, y4, y5, y6, y7, y8, y9, y10, y11, y12, y13, y14, y15]) (some ofErr) (some (eachB (okOf 8 (List.zipWith (N o v) (listF a0 a1 8) [y0, y1, y2, y3, y4, y5, y6, y7, y8, y9, y10, y11, y12, y13, y14, y15])) 8 (List.zipWith (N o v) (listF a0 a1 8) [y0, y1, y2, y3, y4, y5, y6, y7, y8, y9, y10, y11, y12, y13, y14, y15]))) := by kernel_rfl
theorem each2_16 (N : B2) (R : E2) (o : BitVec 8) (v : Int) (a0 a1 : BitVec 64) (y0 y1 y2 y3 y4 y5 y6 y7 : BitVec 64) : ex [(182, left allF), (313, clo2G N R), (79, OfS)] annE Tryz.f191 [.i .i64 16, vec a0 a1, .clo 313 [.ref [.u8 o], .ref [.i .i64 v], .ref [.sl64 [y0, y1, y2, y3, y4, y5, y6, y7]]]] some =
 chainR (List.zipWith (R o v) (listF a0 a1 16) [y0, y1, y2, y3, y4, y5, y6, y7]) (some ofErr) (some (eachB (okOf 16 (List.zipWith (N o v) (listF a0 a1 16) [y0, y1, y2, y3, y4, y5, y6, y7])) 16 (List.zipWith (N o v) (listF a0 a1 16) [y0, y1, y2, y3, y4, y5, y6, y7]))) := by kernel_rfl
theorem each2_32 (N : B2) (R : E2) (o : BitVec 8) (v : Int) (a0 a1 : BitVec 64) (y0 y1 y2 y3 : BitVec 64) : ex [(182, left allF), (313, clo2G N R), (79, OfS)] annE Tryz.f191 [.i .i64 32, vec a0 a1, .clo 313 [.ref [.u8 o], .ref [.i .i64 v], .ref [.sl64 [y0, y1, y2, y3]]]] some =
 chainR (List.zipWith (R o v) (listF a0 a1 32) [y0, y1, y2, y3]) (some ofErr) (some (eachB (okOf 32 (List.zipWith (N o v) (listF a0 a1 32) [y0, y1, y2, y3])) 32 (List.zipWith (N o v) (listF a0 a1 32) [y0, y1, y2, y3]))) := by kernel_rfl
theorem each2_64 (N : B2) (R : E2) (o : BitVec 8) (v : Int) (a0 a1 : BitVec 64) (y0 y1 : BitVec 64) : ex [(182, left allF), (313, clo2G N R), (79, OfS)] annE Tryz.f191 [.i .i64 64, vec a0 a1, .clo 313 [.ref [.u8 o], .ref [.i .i64 v], .ref [.sl64 [y0, y1]]]] some =
 chainR (List.zipWith (R o v) (listF a0 a1 64) [y0, y1]) (some ofErr) (some (eachB (okOf 64 (List.zipWith (N o v) (listF a0 a1 64) [y0, y1])) 64 (List.zipWith (N o v) (listF a0 a1 64) [y0, y1]))) := by kernel_rfl
theorem each1_8 (U : B1) (Q : E1) (o : BitVec 8) (v : Int) (a0 a1 : BitVec 64) : ex [(182, left allF), (314, clo1G U Q), (79, OfS)] annE Tryz.f191 [.i .i64 8, vec a0 a1, .clo 314 [.ref [.u8 o], .ref [.i .i64 v]]] some =
 chainR ((listF a0 a1 8).map (Q o v)) (some ofErr) (some (eachB (okOf 8 ((listF a0 a1 8).map (U o v))) 8 ((listF a0 a1 8).map (U o v)))) := by kernel_rfl
theorem each1_16 (U : B1) (Q : E1) (o : BitVec 8) (v : Int) (a0 a1 : BitVec 64) : ex [(182, left allF), (314, clo1G U Q), (79, OfS)] annE Tryz.f191 [.i .i64 16, vec a0 a1, .clo 314 [.ref [.u8 o], .ref [.i .i64 v]]] some =
 chainR ((listF a0 a1 16).map (Q o v)) (some ofErr) (some (eachB (okOf 16 ((listF a0 a1 16).map (U o v))) 16 ((listF a0 a1 16).map (U o v)))) := by kernel_rfl
theorem each1_32 (U : B1) (Q : E1) (o : BitVec 8) (v : Int) (a0 a1 : BitVec 64) : ex [(182, left allF), (314, clo1G U Q), (79, OfS)] annE Tryz.f191 [.i .i64 32, vec a0 a1, .clo 314 [.ref [.u8 o], .ref [.i .i64 v]]] some =
 chainR ((listF a0 a1 32).map (Q o v)) (some ofErr) (some (eachB (okOf 32 ((listF a0 a1 32).map (U o v))) 32 ((listF a0 a1 32).map (U o v)))) := by kernel_rfl
theorem each1_64 (U : B1) (Q : E1) (o : BitVec 8) (v : Int) (a0 a1 : BitVec 64) : ex [(182, left allF), (314, clo1G U Q), (79, OfS)] annE Tryz.f191 [.i .i64 64, vec a0 a1, .clo 314 [.ref [.u8 o], .ref [.i .i64 v]]] some =
 chainR ((listF a0 a1 64).map (Q o v)) (some ofErr) (some (eachB (okOf 64 ((listF a0 a1 64).map (U o v))) 64 ((listF a0 a1 64).map (U o v)))) := by kernel_rfl
theorem eachS_8 (N : B2) (R : E2) (o : BitVec 8) (a0 a1 : BitVec 64) (n : BitVec 64) (v : Int) (hv : okW v = true) : ex [(182, left allF), (315, cloSG N R), (79, OfS)] annE Tryz.f191 [.i .i64 8, vec a0 a1, .clo 315 [.ref [.u8 o], .ref [.i .i64 v], .ref [.u64 n]]] some =
 chainR ((listF a0 a1 8).map (fun x => R o v x (n % BitVec.ofInt 64 v))) (some ofErr) (some (eachB (okOf 8 ((listF a0 a1 8).map (fun x => N o v x (n % BitVec.ofInt 64 v)))) 8 ((listF a0 a1 8).map (fun x => N o v x (n % BitVec.ofInt 64 v))))) := by
 rcases okW_cases hv with rfl | rfl | rfl | rfl <;> kernel_rfl
theorem eachS_16 (N : B2) (R : E2) (o : BitVec 8) (a0 a1 : BitVec 64) (n : BitVec 64) (v : Int) (hv : okW v = true) : ex [(182, left allF), (315, cloSG N R), (79, OfS)] annE Tryz.f191 [.i .i64 16, vec a0 a1, .clo 315 [.ref [.u8 o], .ref [.i .i64 v], .ref [.u64 n]]] some =
 chainR ((listF a0 a1 16).map (fun x => R o v x (n % BitVec.ofInt 64 v))) (some ofErr) (some (eachB (okOf 16 ((listF a0 a1 16).map (fun x => N o v x (n % BitVec.ofInt 64 v)))) 16 ((listF a0 a1 16).map (fun x => N o v x (n % BitVec.ofInt 64 v))))) := by
 rcases okW_cases hv with rfl | rfl | rfl | rfl <;> kernel_rfl
theorem eachS_32 (N : B2) (R : E2) (o : BitVec 8) (a0 a1 : BitVec 64) (n : BitVec 64) (v : Int) (hv : okW v = true) : ex [(182, left allF), (315, cloSG N R), (79, OfS)] annE Tryz.f191 [.i .i64 32, vec a0 a1, .clo 315 [.ref [.u8 o], .ref [.i .i64 v], .ref [.u64 n]]] some =
 chainR ((listF a0 a1 32).map (fun x => R o v x (n % BitVec.ofInt 64 v))) (some ofErr) (some (eachB (okOf 32 ((listF a0 a1 32).map (fun x => N o v x (n % BitVec.ofInt 64 v)))) 32 ((listF a0 a1 32).map (fun x => N o v x (n % BitVec.ofInt 64 v))))) := by
 rcases okW_cases hv with rfl | rfl | rfl | rfl <;> kernel_rfl
theorem eachS_64 (N : B2) (R : E2) (o : BitVec 8) (a0 a1 : BitVec 64) (n : BitVec 64) (v : Int) (hv : okW v = true) : ex [(182, left allF), (315, cloSG N R), (79, OfS)] annE Tryz.f191 [.i .i64 64, vec a0 a1, .clo 315 [.ref [.u8 o], .ref [.i .i64 v], .ref [.u64 n]]] some =
 chainR ((listF a0 a1 64).map (fun x => R o v x (n % BitVec.ofInt 64 v))) (some ofErr) (some (eachB (okOf 64 ((listF a0 a1 64).map (fun x => N o v x (n % BitVec.ofInt 64 v)))) 64 ((listF a0 a1 64).map (fun x => N o v x (n % BitVec.ofInt 64 v))))) := by
 rcases okW_cases hv with rfl | rfl | rfl | rfl <;> kernel_rfl
theorem eachT_8 (C : C2) (E : E2) (o : BitVec 8) (v : Int) (a0 a1 : BitVec 64) (y0 y1 y2 y3 y4 y5 y6 y7 y8 y9 y10 y11 y12 y13 y14 y15 : BitVec 64) : ex [(182, left allF), (192, cloTG C E), (79, OfS)] annE Tryz.f191 [.i .i64 8, vec a0 a1, .clo 192 [.ref [.u8 o], .ref [.i .i64 v], .ref [.sl64 [y0, y1, y2, y3, y4, y5, y6, y7, y8, y9, y10, y11, y12, y13, y14, y15]]]] some =
 chainR (List.zipWith (E o v) (listF a0 a1 8) [y0, y1, y2, y3, y4, y5, y6, y7, y8, y9, y10, y11, y12, y13, y14, y15]) (some ofErr) (some (eachB (okOf 8 (List.zipWith (thV C E o v) (listF a0 a1 8) [y0, y1, y2, y3, y4, y5, y6, y7, y8, y9, y10, y11, y12, y13, y14, y15])) 8 (List.zipWith (thV C E o v) (listF a0 a1 8) [y0, y1, y2, y3, y4, y5, y6, y7, y8, y9, y10, y11, y12, y13, y14, y15]))) := by kernel_rfl
theorem eachT_16 (C : C2) (E : E2) (o : BitVec 8) (v : Int) (a0 a1 : BitVec 64) (y0 y1 y2 y3 y4 y5 y6 y7 : BitVec 64) : ex [(182, left allF), (192, cloTG C E), (79, OfS)] annE Tryz.f191 [.i .i64 16, vec a0 a1, .clo 192 [.ref [.u8 o], .ref [.i .i64 v], .ref [.sl64 [y0, y1, y2, y3, y4, y5, y6, y7]]]] some =
 chainR (List.zipWith (E o v) (listF a0 a1 16) [y0, y1, y2, y3, y4, y5, y6, y7]) (some ofErr) (some (eachB (okOf 16 (List.zipWith (thV C E o v) (listF a0 a1 16) [y0, y1, y2, y3, y4, y5, y6, y7])) 16 (List.zipWith (thV C E o v) (listF a0 a1 16) [y0, y1, y2, y3, y4, y5, y6, y7]))) := by kernel_rfl
theorem eachT_32 (C : C2) (E : E2) (o : BitVec 8) (v : Int) (a0 a1 : BitVec 64) (y0 y1 y2 y3 : BitVec 64) : ex [(182, left allF), (192, cloTG C E), (79, OfS)] annE Tryz.f191 [.i .i64 32, vec a0 a1, .clo 192 [.ref [.u8 o], .ref [.i .i64 v], .ref [.sl64 [y0, y1, y2, y3]]]] some =
 chainR (List.zipWith (E o v) (listF a0 a1 32) [y0, y1, y2, y3]) (some ofErr) (some (eachB (okOf 32 (List.zipWith (thV C E o v) (listF a0 a1 32) [y0, y1, y2, y3])) 32 (List.zipWith (thV C E o v) (listF a0 a1 32) [y0, y1, y2, y3]))) := by kernel_rfl
theorem eachT_64 (C : C2) (E : E2) (o : BitVec 8) (v : Int) (a0 a1 : BitVec 64) (y0 y1 : BitVec 64) : ex [(182, left allF), (192, cloTG C E), (79, OfS)] annE Tryz.f191 [.i .i64 64, vec a0 a1, .clo 192 [.ref [.u8 o], .ref [.i .i64 v], .ref [.sl64 [y0, y1]]]] some =
 chainR (List.zipWith (E o v) (listF a0 a1 64) [y0, y1]) (some ofErr) (some (eachB (okOf 64 (List.zipWith (thV C E o v) (listF a0 a1 64) [y0, y1])) 64 (List.zipWith (thV C E o v) (listF a0 a1 64) [y0, y1]))) := by kernel_rfl
end Go.L23
namespace Go.L23
open Go.Ev Go.Proofs Go.RowKit Go.Wh
theorem each_bad {w : Int} (h : okW w = false) (a0 a1 : BitVec 64) (c : D) (hc : ex [(182, right allF)] (fun _ => []) Tryz.f191 [.i .i64 w, vec a0 a1, c] some = if (!okW w) = true then some ofErr else none) : Pt Tryz.prog G0 191 [.i .i64 w, vec a0 a1, c] ofErr := by
 refine (execFn_sound (ann := fun _ => []) (TableOK.cons All28.right TableOK.nil) mixed Tryz.func191 (by kernel_rfl) 50).pt (hc.trans ?_)
 rw [h]; rfl
theorem len16 {l : List (BitVec 64)} (h : l.length = 16) : ∃ y0 y1 y2 y3 y4 y5 y6 y7 y8 y9 y10 y11 y12 y13 y14 y15, l = [y0, y1, y2, y3, y4, y5, y6, y7, y8, y9, y10, y11, y12, y13, y14, y15] := by
 match l, h with
 | [y0, y1, y2, y3, y4, y5, y6, y7, y8, y9, y10, y11, y12, y13, y14, y15], _ => exact ⟨_, _, _, _, _, _, _, _, _, _, _, _, _, _, _, _, rfl⟩
theorem len8 {l : List (BitVec 64)} (h : l.length = 8) : ∃ y0 y1 y2 y3 y4 y5 y6 y7, l = [y0, y1, y2, y3, y4, y5, y6, y7] := by
 match l, h with
 | [y0, y1, y2, y3, y4, y5, y6, y7], _ => exact ⟨_, _, _, _, _, _, _, _, rfl⟩
theorem len4 {l : List (BitVec 64)} (h : l.length = 4) : ∃ y0 y1 y2 y3, l = [y0, y1, y2, y3] := by
 match l, h with
 | [y0, y1, y2, y3], _ => exact ⟨_, _, _, _, rfl⟩
theorem len2 {l : List (BitVec 64)} (h : l.length = 2) : ∃ y0 y1, l = [y0, y1] := by
 match l, h with
 | [y0, y1], _ => exact ⟨_, _, rfl⟩
theorem each2_pt {N : B2} {R : E2} (h2 : Snd 313 (clo2G N R)) {w : Int} (hw : okW w = true) (o : BitVec 8) (v : Int) (a0 a1 : BitVec 64) (y : List (BitVec 64)) (hy : y.length = (128 / w).toNat) : Pt Tryz.prog G0 191 [.i .i64 w, .agg [.u64 a0, .u64 a1], .clo 313 [.ref [.u8 o], .ref [.i .i64 v], .ref [.sl64 y]]] (eachV w (List.zipWith (R o v) (listF a0 a1 w) y) (List.zipWith (N o v) (listF a0 a1 w) y)) := by
 have S := execFn_sound (P := Tryz.prog) (G := G0) (ann := annE) (TableOK.cons All28.left (TableOK.cons h2 (TableOK.cons (OfJ Of30) TableOK.nil))) mixed Tryz.func191 (by kernel_rfl) 50
 rcases okW_cases hw with rfl | rfl | rfl | rfl
 ·obtain ⟨y0, y1, y2, y3, y4, y5, y6, y7, y8, y9, y10, y11, y12, y13, y14, y15, rfl⟩ := len16 (l := y) (by simpa using hy)
  exact S.pt ((each2_8 N R o v a0 a1 y0 y1 y2 y3 y4 y5 y6 y7 y8 y9 y10 y11 y12 y13 y14 y15).trans (each_fin 8 _ _))
 ·obtain ⟨y0, y1, y2, y3, y4, y5, y6, y7, rfl⟩ := len8 (l := y) (by simpa using hy)
  exact S.pt ((each2_16 N R o v a0 a1 y0 y1 y2 y3 y4 y5 y6 y7).trans (each_fin 16 _ _))
 ·obtain ⟨y0, y1, y2, y3, rfl⟩ := len4 (l := y) (by simpa using hy)
  exact S.pt ((each2_32 N R o v a0 a1 y0 y1 y2 y3).trans (each_fin 32 _ _))
 ·obtain ⟨y0, y1, rfl⟩ := len2 (l := y) (by simpa using hy)
  exact S.pt ((each2_64 N R o v a0 a1 y0 y1).trans (each_fin 64 _ _))
theorem each1_pt {U : B1} {Q : E1} (h1 : Snd 314 (clo1G U Q)) {w : Int} (hw : okW w = true) (o : BitVec 8) (v : Int) (a0 a1 : BitVec 64) : Pt Tryz.prog G0 191 [.i .i64 w, .agg [.u64 a0, .u64 a1], .clo 314 [.ref [.u8 o], .ref [.i .i64 v]]] (eachV w ((listF a0 a1 w).map (Q o v)) ((listF a0 a1 w).map (U o v))) := by
 have S := execFn_sound (P := Tryz.prog) (G := G0) (ann := annE) (TableOK.cons All28.left (TableOK.cons h1 (TableOK.cons (OfJ Of30) TableOK.nil))) mixed Tryz.func191 (by kernel_rfl) 50
 rcases okW_cases hw with rfl | rfl | rfl | rfl
 ·exact S.pt ((each1_8 U Q o v a0 a1).trans (each_fin 8 _ _))
 ·exact S.pt ((each1_16 U Q o v a0 a1).trans (each_fin 16 _ _))
 ·exact S.pt ((each1_32 U Q o v a0 a1).trans (each_fin 32 _ _))
 ·exact S.pt ((each1_64 U Q o v a0 a1).trans (each_fin 64 _ _))
theorem eachS_pt {N : B2} {R : E2} (hs : Snd 315 (cloSG N R)) {w : Int} (hw : okW w = true) (o : BitVec 8) (v : Int) (a0 a1 : BitVec 64) (n : BitVec 64) (hv : okW v = true) : Pt Tryz.prog G0 191 [.i .i64 w, .agg [.u64 a0, .u64 a1], .clo 315 [.ref [.u8 o], .ref [.i .i64 v], .ref [.u64 n]]] (eachV w ((listF a0 a1 w).map (fun x => R o v x (n % BitVec.ofInt 64 v))) ((listF a0 a1 w).map (fun x => N o v x (n % BitVec.ofInt 64 v)))) := by
 have S := execFn_sound (P := Tryz.prog) (G := G0) (ann := annE) (TableOK.cons All28.left (TableOK.cons hs (TableOK.cons (OfJ Of30) TableOK.nil))) mixed Tryz.func191 (by kernel_rfl) 50
 rcases okW_cases hw with rfl | rfl | rfl | rfl
 ·exact S.pt ((eachS_8 N R o a0 a1 n v hv).trans (each_fin 8 _ _))
 ·exact S.pt ((eachS_16 N R o a0 a1 n v hv).trans (each_fin 16 _ _))
 ·exact S.pt ((eachS_32 N R o a0 a1 n v hv).trans (each_fin 32 _ _))
 ·exact S.pt ((eachS_64 N R o a0 a1 n v hv).trans (each_fin 64 _ _))
theorem eachT_pt {C : C2} {E : E2} (ht : Snd 192 (cloTG C E)) {w : Int} (hw : okW w = true) (o : BitVec 8) (v : Int) (a0 a1 : BitVec 64) (y : List (BitVec 64)) (hy : y.length = (128 / w).toNat) : Pt Tryz.prog G0 191 [.i .i64 w, .agg [.u64 a0, .u64 a1], .clo 192 [.ref [.u8 o], .ref [.i .i64 v], .ref [.sl64 y]]] (eachV w (List.zipWith (E o v) (listF a0 a1 w) y) (List.zipWith (thV C E o v) (listF a0 a1 w) y)) := by
 have S := execFn_sound (P := Tryz.prog) (G := G0) (ann := annE) (TableOK.cons All28.left (TableOK.cons ht (TableOK.cons (OfJ Of30) TableOK.nil))) mixed Tryz.func191 (by kernel_rfl) 50
 rcases okW_cases hw with rfl | rfl | rfl | rfl
 ·obtain ⟨y0, y1, y2, y3, y4, y5, y6, y7, y8, y9, y10, y11, y12, y13, y14, y15, rfl⟩ := len16 (l := y) (by simpa using hy)
  exact S.pt ((eachT_8 C E o v a0 a1 y0 y1 y2 y3 y4 y5 y6 y7 y8 y9 y10 y11 y12 y13 y14 y15).trans (each_fin 8 _ _))
 ·obtain ⟨y0, y1, y2, y3, y4, y5, y6, y7, rfl⟩ := len8 (l := y) (by simpa using hy)
  exact S.pt ((eachT_16 C E o v a0 a1 y0 y1 y2 y3 y4 y5 y6 y7).trans (each_fin 16 _ _))
 ·obtain ⟨y0, y1, y2, y3, rfl⟩ := len4 (l := y) (by simpa using hy)
  exact S.pt ((eachT_32 C E o v a0 a1 y0 y1 y2 y3).trans (each_fin 32 _ _))
 ·obtain ⟨y0, y1, rfl⟩ := len2 (l := y) (by simpa using hy)
  exact S.pt ((eachT_64 C E o v a0 a1 y0 y1).trans (each_fin 64 _ _))
end Go.L23
namespace Go.L23
open Go.Ev Go.Proofs Go.RowKit Go.Wh
def exclB (o : BitVec 8) : Bool := o == 4#8 || o == 5#8 || o == 6#8 || o == 7#8 || o == 11#8 || o == 12#8 || o == 13#8 || o == 14#8 || o == 15#8
def exclG (o : BitVec 8) (e a : Option D) : Option D :=
 if decide (BitVec.ofInt 8 4 ≤ o) = true then
  if decide (o ≤ BitVec.ofInt 8 7) = false then
   if decide (BitVec.ofInt 8 11 ≤ o) = true then if decide (o ≤ BitVec.ofInt 8 15) = true then e else a else a
  else e
 else if decide (BitVec.ofInt 8 11 ≤ o) = true then if decide (o ≤ BitVec.ofInt 8 15) = true then e else a else a
theorem exclB_dec : ∀ o : BitVec 8, exclB o = (decide (BitVec.ofInt 8 4 ≤ o) && decide (o ≤ BitVec.ofInt 8 7) || decide (BitVec.ofInt 8 11 ≤ o) && decide (o ≤ BitVec.ofInt 8 15)) := by decide +kernel
theorem exclG_eq (o : BitVec 8) (e a : Option D) : exclG o e a = if exclB o = true then e else a := by
 rw [exclB_dec]
 unfold exclG
 generalize decide (BitVec.ofInt 8 4 ≤ o) = c1
 generalize decide (o ≤ BitVec.ofInt 8 7) = c2
 generalize decide (BitVec.ofInt 8 11 ≤ o) = c3
 generalize decide (o ≤ BitVec.ofInt 8 15) = c4
 cases c1 <;> cases c2 <;> cases c3 <;> cases c4 <;> rfl
def lT (N : B2) (o : BitVec 8) (w : Int) (a0 a1 b0 b1 : BitVec 64) : List (BitVec 64) := List.zipWith (N o w) (listF a0 a1 w) (listF b0 b1 w)
def rT (R : E2) (o : BitVec 8) (w : Int) (a0 a1 b0 b1 : BitVec 64) : List Int := List.zipWith (R o w) (listF a0 a1 w) (listF b0 b1 w)
def okT (N : B2) (R : E2) (o : BitVec 8) (w : Int) (a0 a1 b0 b1 : BitVec 64) : Bool := !exclB o && okEach w (rT R o w a0 a1 b0 b1) (lT N o w a0 a1 b0 b1)
noncomputable def VtwoS (N : B2) (R : E2) : Ev.Spec := joined fun | [.u8 o, .i .i64 w, .agg [.u64 a0, .u64 a1], .agg [.u64 b0, .u64 b1]] => some (eachB (okT N R o w a0 a1 b0 b1) w (lT N o w a0 a1 b0 b1)) | _ => none
theorem okT_no {w : Int} (h : okW w = false) (N : B2) (R : E2) (o : BitVec 8) (a0 a1 b0 b1 : BitVec 64) : okT N R o w a0 a1 b0 b1 = false := by simp [okT, okEach, okOf, h]
noncomputable def each2S (N : B2) (R : E2) : Ev.Spec := guarded fun
 | [.i .i64 w, .agg [.u64 a0, .u64 a1], .clo 313 [.ref [.u8 o], .ref [.i .i64 v], .ref [.sl64 y]]] => some (!okW w || decide (y.length = (128 / w).toNat), eachV w (List.zipWith (R o v) (listF a0 a1 w) y) (List.zipWith (N o v) (listF a0 a1 w) y))
 | _ => none
noncomputable def each1S (U : B1) (Q : E1) : Ev.Spec := joined fun
 | [.i .i64 w, .agg [.u64 a0, .u64 a1], .clo 314 [.ref [.u8 o], .ref [.i .i64 v]]] => some (eachV w ((listF a0 a1 w).map (Q o v)) ((listF a0 a1 w).map (U o v)))
 | _ => none
noncomputable def eachSS (N : B2) (R : E2) : Ev.Spec := guarded fun
 | [.i .i64 w, .agg [.u64 a0, .u64 a1], .clo 315 [.ref [.u8 o], .ref [.i .i64 v], .ref [.u64 n]]] => some (!okW w || okW v, eachV w ((listF a0 a1 w).map (fun x => R o v x (n % BitVec.ofInt 64 v))) ((listF a0 a1 w).map (fun x => N o v x (n % BitVec.ofInt 64 v))))
 | _ => none
noncomputable def eachTS (C : C2) (E : E2) : Ev.Spec := guarded fun
 | [.i .i64 w, .agg [.u64 a0, .u64 a1], .clo 192 [.ref [.u8 o], .ref [.i .i64 v], .ref [.sl64 y]]] => some (!okW w || decide (y.length = (128 / w).toNat), eachV w (List.zipWith (E o v) (listF a0 a1 w) y) (List.zipWith (thV C E o v) (listF a0 a1 w) y))
 | _ => none
theorem t_each2 {N : B2} {R : E2} (h : Snd 133 (TwoG N R)) : Snd 191 (each2S N R) := by
 refine Sound.of_ptG fun ds d hd => ?_
 split at hd
 ·rename_i w a0 a1 o v y
  simp only [Option.some.injEq, Prod.mk.injEq] at hd
  obtain ⟨hg, rfl⟩ := hd
  cases hw : okW w
  ·rw [each_no hw]
   exact each_bad hw a0 a1 _ (by kernel_rfl)
  ·exact each2_pt (clo2 h) hw o v a0 a1 y (by simpa [hw] using hg)
 ·cases hd
theorem t_each1 {U : B1} {Q : E1} (h : Snd 132 (OneH U Q)) : Snd 191 (each1S U Q) := by
 refine Sound.of_pt fun ds d hd => ?_
 split at hd
 ·rename_i w a0 a1 o v
  cases hd
  cases hw : okW w
  ·rw [each_no hw]
   exact each_bad hw a0 a1 _ (by kernel_rfl)
  ·exact each1_pt (clo1 h) hw o v a0 a1
 ·cases hd
theorem t_eachS {N : B2} {R : E2} (h : Snd 133 (TwoG N R)) : Snd 191 (eachSS N R) := by
 refine Sound.of_ptG fun ds d hd => ?_
 split at hd
 ·rename_i w a0 a1 o v n
  simp only [Option.some.injEq, Prod.mk.injEq] at hd
  obtain ⟨hg, rfl⟩ := hd
  cases hw : okW w
  ·rw [each_no hw]
   exact each_bad hw a0 a1 _ (by kernel_rfl)
  ·exact eachS_pt (cloS h) hw o v a0 a1 n (by simpa [hw] using hg)
 ·cases hd
theorem t_eachT {C : C2} {E : E2} (h : Snd 130 (ThanH C E)) : Snd 191 (eachTS C E) := by
 refine Sound.of_ptG fun ds d hd => ?_
 split at hd
 ·rename_i w a0 a1 o v y
  simp only [Option.some.injEq, Prod.mk.injEq] at hd
  obtain ⟨hg, rfl⟩ := hd
  cases hw : okW w
  ·rw [each_no hw]
   exact each_bad hw a0 a1 _ (by kernel_rfl)
  ·exact eachT_pt (cloT h) hw o v a0 a1 y (by simpa [hw] using hg)
 ·cases hd
theorem vTwo_8 (N : B2) (R : E2) (o : BitVec 8) (a0 a1 b0 b1 : BitVec 64) : ex [(182, left allF), (191, each2S N R)] (fun _ => []) Tryz.f266 [.u8 o, .i .i64 8, vec a0 a1, vec b0 b1] some =
 exclG o (some ofErr) (some (eachV 8 (rT R o 8 a0 a1 b0 b1) (lT N o 8 a0 a1 b0 b1))) := by kernel_rfl
theorem vTwo_16 (N : B2) (R : E2) (o : BitVec 8) (a0 a1 b0 b1 : BitVec 64) : ex [(182, left allF), (191, each2S N R)] (fun _ => []) Tryz.f266 [.u8 o, .i .i64 16, vec a0 a1, vec b0 b1] some =
 exclG o (some ofErr) (some (eachV 16 (rT R o 16 a0 a1 b0 b1) (lT N o 16 a0 a1 b0 b1))) := by kernel_rfl
theorem vTwo_32 (N : B2) (R : E2) (o : BitVec 8) (a0 a1 b0 b1 : BitVec 64) : ex [(182, left allF), (191, each2S N R)] (fun _ => []) Tryz.f266 [.u8 o, .i .i64 32, vec a0 a1, vec b0 b1] some =
 exclG o (some ofErr) (some (eachV 32 (rT R o 32 a0 a1 b0 b1) (lT N o 32 a0 a1 b0 b1))) := by kernel_rfl
theorem vTwo_64 (N : B2) (R : E2) (o : BitVec 8) (a0 a1 b0 b1 : BitVec 64) : ex [(182, left allF), (191, each2S N R)] (fun _ => []) Tryz.f266 [.u8 o, .i .i64 64, vec a0 a1, vec b0 b1] some =
 exclG o (some ofErr) (some (eachV 64 (rT R o 64 a0 a1 b0 b1) (lT N o 64 a0 a1 b0 b1))) := by kernel_rfl
theorem vTwo_no (o : BitVec 8) (w : Int) (a0 a1 b0 b1 : BitVec 64) : ex [(182, right allF)] (fun _ => []) Tryz.f266 [.u8 o, .i .i64 w, vec a0 a1, vec b0 b1] some =
 exclG o (some ofErr) (if (!okW w) = true then some ofErr else none) := by kernel_rfl
theorem vTwo_fin (N : B2) (R : E2) (o : BitVec 8) (w : Int) (a0 a1 b0 b1 : BitVec 64) : exclG o (some ofErr) (some (eachV w (rT R o w a0 a1 b0 b1) (lT N o w a0 a1 b0 b1))) = some (eachB (okT N R o w a0 a1 b0 b1) w (lT N o w a0 a1 b0 b1)) := by
 rw [exclG_eq]
 unfold okT eachV
 cases exclB o <;> rfl
theorem t_vTwo {N : B2} {R : E2} (h : Snd 133 (TwoG N R)) : Snd 266 (VtwoS N R) := by
 refine Sound.of_pt fun ds d hd => ?_
 split at hd
 ·rename_i o w a0 a1 b0 b1
  cases hd
  cases hw : okW w
  ·rw [okT_no hw]
   refine (execFn_sound (ann := fun _ => []) (TableOK.cons All28.right TableOK.nil) mixed Tryz.func266 (by kernel_rfl) 50).pt ((vTwo_no o w a0 a1 b0 b1).trans ?_)
   rw [exclG_eq, hw]
   cases exclB o <;> rfl
  ·have S := execFn_sound (P := Tryz.prog) (G := G0) (ann := fun _ => []) (TableOK.cons All28.left (TableOK.cons (t_each2 h) TableOK.nil)) mixed Tryz.func266 (by kernel_rfl) 50
   rcases okW_cases hw with rfl | rfl | rfl | rfl
   ·exact S.pt ((vTwo_8 N R o a0 a1 b0 b1).trans (vTwo_fin N R o 8 a0 a1 b0 b1))
   ·exact S.pt ((vTwo_16 N R o a0 a1 b0 b1).trans (vTwo_fin N R o 16 a0 a1 b0 b1))
   ·exact S.pt ((vTwo_32 N R o a0 a1 b0 b1).trans (vTwo_fin N R o 32 a0 a1 b0 b1))
   ·exact S.pt ((vTwo_64 N R o a0 a1 b0 b1).trans (vTwo_fin N R o 64 a0 a1 b0 b1))
 ·cases hd
def Fits2 (N : B2) (R : E2) : Prop := ∀ o w a b, okW w = true → exclB o = false → R o w a b = 0 → N o w a b ≤ maskF w
theorem zip_len {α : Type} (g : BitVec 64 → BitVec 64 → α) (w : Int) (a0 a1 b0 b1 : BitVec 64) : (List.zipWith g (listF a0 a1 w) (listF b0 b1 w)).length = (128 / w).toNat := by
 rw [List.length_zipWith, listF_length, listF_length, Nat.min_self]
theorem zip_all {R : BitVec 64 → BitVec 64 → Int} {N : BitVec 64 → BitVec 64 → BitVec 64} {m : BitVec 64} (h : ∀ x y, R x y = 0 → N x y ≤ m) : ∀ l k : List (BitVec 64), (List.zipWith R l k).all (fun r => r == 0) = true → (List.zipWith N l k).all (fun z => decide (z ≤ m)) = true
 | [], _, _ => by simp
 | _ :: _, [], _ => by simp
 | x :: l, y :: k, h2 => by
  simp only [List.zipWith_cons_cons, List.all_cons, Bool.and_eq_true, beq_iff_eq, decide_eq_true_eq] at h2 ⊢
  exact ⟨h x y h2.1, zip_all h l k h2.2⟩
end Go.L23
namespace Go.L23
open Go.Ev Go.Proofs Go.RowKit Go.Wh
theorem exclB_no {o : BitVec 8} (h : exclB o = false) : (o == 4#8) = false ∧ (o == 5#8) = false ∧ (o == 6#8) = false ∧ (o == 7#8) = false := by
 simp only [exclB, Bool.or_eq_false_iff] at h
 exact ⟨h.1.1.1.1.1.1.1.1, h.1.1.1.1.1.1.1.2, h.1.1.1.1.1.1.2, h.1.1.1.1.1.2⟩
theorem fits2_two : Fits2 twoN twoR := by
 intro o w a b hw ho _
 refine le_of_fit ?_
 unfold twoN ifF
 split
 ·rename_i hm
  obtain ⟨ha, hb⟩ := may_fit hm
  obtain ⟨h4, h5, h6, h7⟩ := exclB_no ho
  exact two_fits ha hb h4 h5 h6 h7
 ·exact fit_zero hw
theorem t_V13 : Snd 266 (VtwoS twoN twoR) := t_vTwo t_Two
abbrev B2x := BitVec 8 → Int → BitVec 64 → BitVec 64 → BitVec 64 → BitVec 64 → BitVec 64
abbrev E2x := BitVec 8 → Int → BitVec 64 → BitVec 64 → BitVec 64 → BitVec 64 → Int
noncomputable def V2G (P Q : B2x) (E : E2x) : Ev.Spec := joined fun | [.u8 o, .i .i64 w, .agg [.u64 a0, .u64 a1], .agg [.u64 b0, .u64 b1]] => some (.tup [vec (P o w a0 a1 b0 b1) (Q o w a0 a1 b0 b1), .i .i64 (E o w a0 a1 b0 b1)]) | _ => none
end Go.L23
namespace Go.L23
open Go.Ev Go.Proofs Go.RowKit Go.Wh
def noZero (l : List (BitVec 64)) : Bool := l.all fun x => !(x == 0#64)
def chainZ : List (BitVec 64) → Option D
 | [] => some (.tup [.bool true, .i .i64 0])
 | x :: l => if (x == 0#64) = true then some (.tup [.bool false, .i .i64 0]) else chainZ l
theorem chainZ_eq : ∀ l : List (BitVec 64), chainZ l = some (.tup [.bool (noZero l), .i .i64 0])
 | [] => rfl
 | x :: l => by
  simp only [chainZ, chainZ_eq l, noZero, List.all_cons]
  by_cases h : x = 0#64
  ·subst h; rfl
  ·have e : (x == 0#64) = false := by simp [h]
   simp only [e, Bool.false_eq_true, if_false, Bool.not_false, Bool.true_and]
def hiBits (w : Int) : Nat → BitVec 64 → List (BitVec 64) → BitVec 64
 | _, n, [] => n
 | i, n, x :: l => hiBits w (i + 1) (n ||| (x >>> (BitVec.ofInt 64 (IntKind.i64.wrap (w - 1))).toNat) <<< (BitVec.ofInt 64 (i : Int)).toNat) l
noncomputable def AllS : Ev.Spec := joined fun | [.i .i64 w, .agg [.u64 a0, .u64 a1]] => some (.tup [.bool (okW w && noZero (listF a0 a1 w)), .i .i64 (errF (okW w))]) | _ => none
noncomputable def MaskS : Ev.Spec := joined fun | [.i .i64 w, .agg [.u64 a0, .u64 a1]] => some (.tup [.u64 (ifF (okW w) (hiBits w 0 0#64 (listF a0 a1 w))), .i .i64 (errF (okW w))]) | _ => none
def annA : Nat → List Nat := fun | 5 => [19, 20, 21] | _ => []
def annM : Nat → List Nat := fun | 6 => [0, 8, 20, 21, 22] | _ => []
theorem vAll_8 (a0 a1 : BitVec 64) : ex [(182, left allF)] annA Tryz.f195 [.i .i64 8, vec a0 a1] some = chainZ (listF a0 a1 8) := by kernel_rfl
theorem vMask_8 (a0 a1 : BitVec 64) : ex [(182, left allF)] annM Tryz.f196 [.i .i64 8, vec a0 a1] some = some (.tup [.u64 (hiBits 8 0 0#64 (listF a0 a1 8)), .i .i64 0]) := by kernel_rfl
theorem vAll_16 (a0 a1 : BitVec 64) : ex [(182, left allF)] annA Tryz.f195 [.i .i64 16, vec a0 a1] some = chainZ (listF a0 a1 16) := by kernel_rfl
theorem vMask_16 (a0 a1 : BitVec 64) : ex [(182, left allF)] annM Tryz.f196 [.i .i64 16, vec a0 a1] some = some (.tup [.u64 (hiBits 16 0 0#64 (listF a0 a1 16)), .i .i64 0]) := by kernel_rfl
theorem vAll_32 (a0 a1 : BitVec 64) : ex [(182, left allF)] annA Tryz.f195 [.i .i64 32, vec a0 a1] some = chainZ (listF a0 a1 32) := by kernel_rfl
theorem vMask_32 (a0 a1 : BitVec 64) : ex [(182, left allF)] annM Tryz.f196 [.i .i64 32, vec a0 a1] some = some (.tup [.u64 (hiBits 32 0 0#64 (listF a0 a1 32)), .i .i64 0]) := by kernel_rfl
theorem vAll_64 (a0 a1 : BitVec 64) : ex [(182, left allF)] annA Tryz.f195 [.i .i64 64, vec a0 a1] some = chainZ (listF a0 a1 64) := by kernel_rfl
theorem vMask_64 (a0 a1 : BitVec 64) : ex [(182, left allF)] annM Tryz.f196 [.i .i64 64, vec a0 a1] some = some (.tup [.u64 (hiBits 64 0 0#64 (listF a0 a1 64)), .i .i64 0]) := by kernel_rfl
theorem vAll_no (w : Int) (a0 a1 : BitVec 64) : ex [(182, right allF)] (fun _ => []) Tryz.f195 [.i .i64 w, vec a0 a1] some = if (!okW w) = true then some (.tup [.bool false, .i .i64 2]) else none := by kernel_rfl
theorem vMask_no (w : Int) (a0 a1 : BitVec 64) : ex [(182, right allF)] (fun _ => []) Tryz.f196 [.i .i64 w, vec a0 a1] some = if (!okW w) = true then some (.tup [.u64 0#64, .i .i64 2]) else none := by kernel_rfl
theorem t_vAll : Snd 195 AllS := by
 refine Sound.of_pt fun ds d hd => ?_
 split at hd
 ·rename_i w a0 a1
  cases hd
  cases hw : okW w
  ·refine (execFn_sound (ann := fun _ => []) (TableOK.cons All28.right TableOK.nil) mixed Tryz.func195 (by kernel_rfl) 50).pt ((vAll_no w a0 a1).trans ?_)
   rw [hw]; rfl
  ·have S := execFn_sound (P := Tryz.prog) (G := G0) (ann := annA) (TableOK.cons All28.left TableOK.nil) mixed Tryz.func195 (by kernel_rfl) 50
   rcases okW_cases hw with rfl | rfl | rfl | rfl
   ·exact S.pt ((vAll_8 a0 a1).trans (chainZ_eq _))
   ·exact S.pt ((vAll_16 a0 a1).trans (chainZ_eq _))
   ·exact S.pt ((vAll_32 a0 a1).trans (chainZ_eq _))
   ·exact S.pt ((vAll_64 a0 a1).trans (chainZ_eq _))
 ·cases hd
theorem t_vMask : Snd 196 MaskS := by
 refine Sound.of_pt fun ds d hd => ?_
 split at hd
 ·rename_i w a0 a1
  cases hd
  cases hw : okW w
  ·refine (execFn_sound (ann := fun _ => []) (TableOK.cons All28.right TableOK.nil) mixed Tryz.func196 (by kernel_rfl) 50).pt ((vMask_no w a0 a1).trans ?_)
   rw [hw]; rfl
  ·have S := execFn_sound (P := Tryz.prog) (G := G0) (ann := annM) (TableOK.cons All28.left TableOK.nil) mixed Tryz.func196 (by kernel_rfl) 50
   rcases okW_cases hw with rfl | rfl | rfl | rfl
   ·exact S.pt (vMask_8 a0 a1)
   ·exact S.pt (vMask_16 a0 a1)
   ·exact S.pt (vMask_32 a0 a1)
   ·exact S.pt (vMask_64 a0 a1)
 ·cases hd
section
variable {H : Type} {enc : TypeId × Value → H} {W : World} {base b0 : Nat} {spare : Nat → Bool} {held : Bool} {r : Reach} {own : Option Nat} {v : Value} {d : DataW H} {p : List MemPlace}
end
end Go.L23
namespace Go.L23
open Go.Ev Go.Proofs Go.RowKit Go.Wh
def inOne (o : BitVec 8) : Bool := o == 29#8 || o == 30#8 || o == 28#8 || o == 31#8
def caseO (o : BitVec 8) (e a : Option D) : Option D := if (o == 29#8) = true then a else if (o == 30#8) = true then a else if (o == 28#8) = true then a else if (o == 31#8) = true then a else e
theorem caseO_eq (o : BitVec 8) (e a : Option D) : caseO o e a = if inOne o = true then a else e := by
 unfold caseO inOne
 cases o == 29#8 <;> cases o == 30#8 <;> cases o == 28#8 <;> cases o == 31#8 <;> rfl
def lU (U : B1) (o : BitVec 8) (w : Int) (a0 a1 : BitVec 64) : List (BitVec 64) := (listF a0 a1 w).map (U o w)
def rU (Q : E1) (o : BitVec 8) (w : Int) (a0 a1 : BitVec 64) : List Int := (listF a0 a1 w).map (Q o w)
def okU (U : B1) (Q : E1) (o : BitVec 8) (w : Int) (a0 a1 : BitVec 64) : Bool := inOne o && okEach w (rU Q o w a0 a1) (lU U o w a0 a1)
noncomputable def VoneS (U : B1) (Q : E1) : Ev.Spec := joined fun | [.u8 o, .i .i64 w, .agg [.u64 a0, .u64 a1]] => some (eachB (okU U Q o w a0 a1) w (lU U o w a0 a1)) | _ => none
theorem vOne_nf (U : B1) (Q : E1) (o : BitVec 8) (w : Int) (a0 a1 : BitVec 64) : ex [(191, each1S U Q)] (fun _ => []) Tryz.f269 [.u8 o, .i .i64 w, vec a0 a1] some = caseO o (some ofErr) (some (eachV w (rU Q o w a0 a1) (lU U o w a0 a1))) := by kernel_rfl
theorem t_vOne {U : B1} {Q : E1} (h : Snd 132 (OneH U Q)) : Snd 269 (VoneS U Q) := by
 refine Sound.join (execFn_sound (ann := fun _ => []) (TableOK.cons (t_each1 h) TableOK.nil) mixed Tryz.func269 (by kernel_rfl) 50) fun ds d hd => ?_
 split at hd
 ·rename_i o w a0 a1
  cases hd
  refine (vOne_nf U Q o w a0 a1).trans ?_
  rw [caseO_eq]
  unfold okU eachV
  cases inOne o <;> rfl
 ·cases hd
def Fits1 (U : B1) (Q : E1) : Prop := ∀ o w a, fitF w a = true → inOne o = true → Q o w a = 0 ∧ U o w a ≤ maskF w
theorem okU_yes {U : B1} {Q : E1} (hF : Fits1 U Q) {w : Int} (hw : okW w = true) {o : BitVec 8} (ho : inOne o = true) (a0 a1 : BitVec 64) : okU U Q o w a0 a1 = true := by
 have h := list_fit (x := a0) (y := a1) hw
 simp only [okU, okEach, okOf, ho, hw, Bool.true_and, Bool.and_eq_true, List.all_eq_true, decide_eq_true_eq, rU, lU, List.length_map, listF_length, List.mem_map]
 refine ⟨?_, trivial, ?_⟩
 ·rintro _ ⟨z, hz, rfl⟩
  simp [(hF o w z (h z hz) ho).1]
 ·rintro _ ⟨z, hz, rfl⟩
  exact (hF o w z (h z hz) ho).2
def inSh (o : BitVec 8) : Bool := o == 11#8 || o == 12#8 || o == 13#8
def caseS (o : BitVec 8) (e a : Option D) : Option D := if (o == 11#8) = true then a else if (o == 12#8) = true then a else if (o == 13#8) = true then a else e
theorem caseS_eq (o : BitVec 8) (e a : Option D) : caseS o e a = if inSh o = true then a else e := by
 unfold caseS inSh
 cases o == 11#8 <;> cases o == 12#8 <;> cases o == 13#8 <;> rfl
def lS (N : B2) (o : BitVec 8) (w : Int) (a0 a1 n : BitVec 64) : List (BitVec 64) := (listF a0 a1 w).map (fun x => N o w x (n % BitVec.ofInt 64 w))
def rS (R : E2) (o : BitVec 8) (w : Int) (a0 a1 n : BitVec 64) : List Int := (listF a0 a1 w).map (fun x => R o w x (n % BitVec.ofInt 64 w))
def okMv (N : B2) (R : E2) (o : BitVec 8) (w : Int) (a0 a1 n : BitVec 64) : Bool := inSh o && okEach w (rS R o w a0 a1 n) (lS N o w a0 a1 n)
noncomputable def VshS (N : B2) (R : E2) : Ev.Spec := joined fun | [.u8 o, .i .i64 w, .agg [.u64 a0, .u64 a1], .u64 n] => some (eachB (okMv N R o w a0 a1 n) w (lS N o w a0 a1 n)) | _ => none
theorem vSh_nf (N : B2) (R : E2) (o : BitVec 8) (w : Int) (a0 a1 n : BitVec 64) : ex [(191, eachSS N R)] (fun _ => []) Tryz.f271 [.u8 o, .i .i64 w, vec a0 a1, .u64 n] some = caseS o (some ofErr) (if (!okW w || okW w) = true then some (eachV w (rS R o w a0 a1 n) (lS N o w a0 a1 n)) else none) := by kernel_rfl
theorem t_vSh {N : B2} {R : E2} (h : Snd 133 (TwoG N R)) : Snd 271 (VshS N R) := by
 refine Sound.join (execFn_sound (ann := fun _ => []) (TableOK.cons (t_eachS h) TableOK.nil) mixed Tryz.func271 (by kernel_rfl) 50) fun ds d hd => ?_
 split at hd
 ·rename_i o w a0 a1 n
  cases hd
  refine (vSh_nf N R o w a0 a1 n).trans ?_
  have e : (!okW w || okW w) = true := by cases okW w <;> rfl
  rw [if_pos e, caseS_eq]
  unfold okMv eachV
  cases inSh o <;> rfl
 ·cases hd
def FitsS (N : B2) (R : E2) : Prop := ∀ o w a n, fitF w a = true → inSh o = true → R o w a (n % BitVec.ofInt 64 w) = 0 ∧ N o w a (n % BitVec.ofInt 64 w) ≤ maskF w
theorem okMv_yes {N : B2} {R : E2} (hF : FitsS N R) {w : Int} (hw : okW w = true) {o : BitVec 8} (ho : inSh o = true) (a0 a1 n : BitVec 64) : okMv N R o w a0 a1 n = true := by
 have h := list_fit (x := a0) (y := a1) hw
 simp only [okMv, okEach, okOf, ho, hw, Bool.true_and, Bool.and_eq_true, List.all_eq_true, decide_eq_true_eq, rS, lS, List.length_map, listF_length, List.mem_map]
 refine ⟨?_, trivial, ?_⟩
 ·rintro _ ⟨z, hz, rfl⟩
  simp [(hF o w z n (h z hz) ho).1]
 ·rintro _ ⟨z, hz, rfl⟩
  exact (hF o w z n (h z hz) ho).2
theorem fits1_one : Fits1 oneN oneR := by
 intro o w a ha ho
 have hm : mayF w [a] = true := by
  simp only [fitF, Bool.and_eq_true] at ha
  simp [mayF, ha.1, of_decide_eq_true ha.2]
 refine ⟨?_, ?_⟩
 ·unfold oneR
  rw [if_pos hm]
  simp only [inOne, Bool.or_eq_true, beq_iff_eq] at ho
  rcases ho with ((rfl | rfl) | rfl) | rfl <;> rfl
 ·refine le_of_fit ?_
  unfold oneN ifF
  rw [if_pos hm]
  exact one_fits ha
theorem mod_fit {w : Int} (hw : okW w = true) (n : BitVec 64) : fitF w (n % BitVec.ofInt 64 w) = true := by
 refine fit_of_nat hw ?_
 rw [BitVec.toNat_umod]
 rcases okW_cases hw with rfl | rfl | rfl | rfl
 ·show ((n.toNat % 8 : Nat) : Int) < 256; omega
 ·show ((n.toNat % 16 : Nat) : Int) < 65536; omega
 ·show ((n.toNat % 32 : Nat) : Int) < 4294967296; omega
 ·show ((n.toNat % 64 : Nat) : Int) < 18446744073709551616; omega
theorem fitsS_two : FitsS twoN twoR := by
 intro o w a n ha ho
 have hw := (fitF_nat ha).1
 have hb := mod_fit hw n
 generalize n % BitVec.ofInt 64 w = b at hb
 have hm : mayF w [a, b] = true := by
  simp only [fitF, Bool.and_eq_true] at ha hb
  simp [mayF, ha.1, of_decide_eq_true ha.2, of_decide_eq_true hb.2]
 simp only [inSh, Bool.or_eq_true, beq_iff_eq] at ho
 refine ⟨?_, ?_⟩
 ·rcases ho with (rfl | rfl) | rfl <;> (unfold twoR; rw [if_pos hm]; rfl)
 ·refine le_of_fit ?_
  unfold twoN ifF
  rw [if_pos hm]
  rcases ho with (rfl | rfl) | rfl <;> exact two_fits ha hb (by decide) (by decide) (by decide) (by decide)
theorem t_V19 : Snd 269 (VoneS oneN oneR) := t_vOne t_One
theorem t_V21 : Snd 271 (VshS twoN twoR) := t_vSh t_Two
def lV (C : C2) (E : E2) (o : BitVec 8) (w : Int) (a0 a1 b0 b1 : BitVec 64) : List (BitVec 64) := List.zipWith (thV C E o w) (listF a0 a1 w) (listF b0 b1 w)
noncomputable def VthanS (C : C2) (E : E2) : Ev.Spec := joined fun | [.u8 o, .i .i64 w, .agg [.u64 a0, .u64 a1], .agg [.u64 b0, .u64 b1]] => some (eachV w (rT E o w a0 a1 b0 b1) (lV C E o w a0 a1 b0 b1)) | _ => none
theorem vThan_8 (C : C2) (E : E2) (o : BitVec 8) (a0 a1 b0 b1 : BitVec 64) : ex [(182, left allF), (191, eachTS C E)] (fun _ => []) Tryz.f104 [.u8 o, .i .i64 8, vec a0 a1, vec b0 b1] some =
 some (eachV 8 (rT E o 8 a0 a1 b0 b1) (lV C E o 8 a0 a1 b0 b1)) := by kernel_rfl
theorem vThan_16 (C : C2) (E : E2) (o : BitVec 8) (a0 a1 b0 b1 : BitVec 64) : ex [(182, left allF), (191, eachTS C E)] (fun _ => []) Tryz.f104 [.u8 o, .i .i64 16, vec a0 a1, vec b0 b1] some =
 some (eachV 16 (rT E o 16 a0 a1 b0 b1) (lV C E o 16 a0 a1 b0 b1)) := by kernel_rfl
theorem vThan_32 (C : C2) (E : E2) (o : BitVec 8) (a0 a1 b0 b1 : BitVec 64) : ex [(182, left allF), (191, eachTS C E)] (fun _ => []) Tryz.f104 [.u8 o, .i .i64 32, vec a0 a1, vec b0 b1] some =
 some (eachV 32 (rT E o 32 a0 a1 b0 b1) (lV C E o 32 a0 a1 b0 b1)) := by kernel_rfl
theorem vThan_64 (C : C2) (E : E2) (o : BitVec 8) (a0 a1 b0 b1 : BitVec 64) : ex [(182, left allF), (191, eachTS C E)] (fun _ => []) Tryz.f104 [.u8 o, .i .i64 64, vec a0 a1, vec b0 b1] some =
 some (eachV 64 (rT E o 64 a0 a1 b0 b1) (lV C E o 64 a0 a1 b0 b1)) := by kernel_rfl
theorem vThan_no (o : BitVec 8) (w : Int) (a0 a1 b0 b1 : BitVec 64) : ex [(182, right allF)] (fun _ => []) Tryz.f104 [.u8 o, .i .i64 w, vec a0 a1, vec b0 b1] some =
 if (!okW w) = true then some ofErr else none := by kernel_rfl
theorem t_vThan {C : C2} {E : E2} (h : Snd 130 (ThanH C E)) : Snd 104 (VthanS C E) := by
 refine Sound.of_pt fun ds d hd => ?_
 split at hd
 ·rename_i o w a0 a1 b0 b1
  cases hd
  cases hw : okW w
  ·rw [each_no hw]
   refine (execFn_sound (ann := fun _ => []) (TableOK.cons All28.right TableOK.nil) mixed Tryz.func104 (by kernel_rfl) 50).pt ((vThan_no o w a0 a1 b0 b1).trans ?_)
   rw [hw]; rfl
  ·have S := execFn_sound (P := Tryz.prog) (G := G0) (ann := fun _ => []) (TableOK.cons All28.left (TableOK.cons (t_eachT h) TableOK.nil)) mixed Tryz.func104 (by kernel_rfl) 50
   rcases okW_cases hw with rfl | rfl | rfl | rfl
   ·exact S.pt (vThan_8 C E o a0 a1 b0 b1)
   ·exact S.pt (vThan_16 C E o a0 a1 b0 b1)
   ·exact S.pt (vThan_32 C E o a0 a1 b0 b1)
   ·exact S.pt (vThan_64 C E o a0 a1 b0 b1)
 ·cases hd
end Go.L23

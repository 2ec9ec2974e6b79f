/-
  Part of the proof; what its functions and lemmas say stands in the text.
-/
import Derived.Test.YtnbafdmlfpmfkaaGreatDoorX23A
import Derived.Test.YtnbafdmlfpmfkaaGreatDoorC23B
import Derived.Test.YtnbafdmlfpmfkaaGreatDoorF23B
import Derived.Test.YtnbafdmlfpmfkaaGreatDoorFlC
set_option linter.unusedSimpArgs false
set_option linter.unusedVariables false
namespace Go.L23X
open Go.L23
open Go.Ev Go.Proofs Go.RowKit Go.Rt Go.Wh Go.Fl
abbrev VC := Int → Int → Bool → BitVec 64 → BitVec 64
abbrev EC := Int → Int → Bool → BitVec 64 → Int
noncomputable def CG (V : VC) (E : EC) : Ev.Spec := joined fun | [.i .i64 f, .i .i64 t, .bool s, .u64 a] => some (.tup [.u64 (V f t s a), .i .i64 (E f t s a)]) | _ => none
noncomputable def fourS : Ev.Spec := joined fun | [.agg [.u64 a0, .u64 a1]] => some (.a64 (listF a0 a1 32)) | _ => none
noncomputable def of4S : Ev.Spec := joined fun | [.a64 [a, b, c, d]] => some (vec (ifF (okOf 32 [a, b, c, d]) (vecF 32 [a, b, c, d]).1) (ifF (okOf 32 [a, b, c, d]) (vecF 32 [a, b, c, d]).2)) | _ => none
theorem t_four : Snd 187 fourS := by
 refine Sound.join (execFn_sound (ann := fun _ => []) (TableOK.cons All28.left TableOK.nil) mixed Tryz.func187 (by kernel_rfl) 50) fun ds d h => ?_
 split at h
 ·cases h; kernel_rfl
 ·cases h
theorem t_of4 : Snd 188 of4S := by
 refine Sound.join (execFn_sound (ann := fun _ => []) (TableOK.cons (OfJ Of30) TableOK.nil) mixed Tryz.func188 (by kernel_rfl) 50) fun ds d h => ?_
 split at h
 ·cases h; kernel_rfl
 ·cases h
def cuL (V : VC) (w : Int) (s : Bool) (a0 a1 : BitVec 64) : List (BitVec 64) := (listF a0 a1 w).map (V w 32 s) ++ (if w = 64 then [0#64, 0#64] else [])
def flL (V : VC) (w : Int) (s : Bool) (a0 a1 : BitVec 64) : List (BitVec 64) := ((listF a0 a1 32).take (128 / w).toNat).map (V 32 w s)
abbrev PC := Int → Bool → BitVec 64 → BitVec 64 → BitVec 64
noncomputable def VcG (P Q : PC) (E : Int → Int) : Ev.Spec := joined fun | [.i .i64 w, .bool s, .agg [.u64 a0, .u64 a1]] => some (.tup [vec (P w s a0 a1) (Q w s a0 a1), .i .i64 (E w)]) | _ => none
def cuP (V : VC) : PC := fun w s a0 a1 => ifF (wOK w) (vecF 32 (cuL V w s a0 a1)).1
def cuQ (V : VC) : PC := fun w s a0 a1 => ifF (wOK w) (vecF 32 (cuL V w s a0 a1)).2
def flP (V : VC) : PC := fun w s a0 a1 => ifF (wOK w) (vecF w (flL V w s a0 a1)).1
def flQ (V : VC) : PC := fun w s a0 a1 => ifF (wOK w) (vecF w (flL V w s a0 a1)).2
def vcE (w : Int) : Int := errF (wOK w)
def annC : Nat → List Nat := fun | 6 => [0, 1, 6, 10, 23, 24, 25] | _ => []
def annF : Nat → List Nat := fun | 7 => [1, 6, 9, 25, 26] | _ => []
def okD (w : Int) (l : List (BitVec 64)) : Option D := some (.tup [vec (ifF (okOf w l) (vecF w l).1) (ifF (okOf w l) (vecF w l).2), .i .i64 0])
theorem vC_32 (V : VC) (E : EC) (s : Bool) (a0 a1 : BitVec 64) : ex [(186, isG), (182, left allF), (53, CG V E), (188, of4S)] annC Tryz.f102 [.i .i64 32, .bool s, vec a0 a1] some = okD 32 (cuL V 32 s a0 a1) := by kernel_rfl
theorem vC_64 (V : VC) (E : EC) (s : Bool) (a0 a1 : BitVec 64) : ex [(186, isG), (182, left allF), (53, CG V E), (188, of4S)] annC Tryz.f102 [.i .i64 64, .bool s, vec a0 a1] some = okD 32 (cuL V 64 s a0 a1) := by kernel_rfl
theorem vF_32 (V : VC) (E : EC) (s : Bool) (a0 a1 : BitVec 64) : ex [(186, isG), (187, fourS), (125, CG V E), (188, of4S)] annF Tryz.f101 [.i .i64 32, .bool s, vec a0 a1] some = okD 32 (flL V 32 s a0 a1) := by kernel_rfl
theorem vF_64 (V : VC) (E : EC) (s : Bool) (a0 a1 : BitVec 64) : ex [(186, isG), (187, fourS), (125, CG V E), (188, of4S)] annF Tryz.f101 [.i .i64 64, .bool s, vec a0 a1] some = some (.tup [vec (V 32 64 s (getF a0 a1 32 0)) (V 32 64 s (getF a0 a1 32 1)), .i .i64 0]) := by kernel_rfl
theorem vC_no (s : Bool) (w : Int) (a0 a1 : BitVec 64) : ex [(186, isG)] (fun _ => []) Tryz.f102 [.i .i64 w, .bool s, vec a0 a1] some = if (!wOK w) = true then some ofErr else none := by kernel_rfl
theorem vF_no (s : Bool) (w : Int) (a0 a1 : BitVec 64) : ex [(186, isG)] (fun _ => []) Tryz.f101 [.i .i64 w, .bool s, vec a0 a1] some = if (!wOK w) = true then some ofErr else none := by kernel_rfl
theorem vec2 (x y : BitVec 64) : vecF 64 [x, y] = (x, y) := by
 have ex : asm [bt x 0, bt x 8, bt x 16, bt x 24, bt x 32, bt x 40, bt x 48, bt x 56] = x := route (ρ := at3 x y 0#64) (by kernel_rfl)
 have ey : asm [bt y 0, bt y 8, bt y 16, bt y 24, bt y 32, bt y 40, bt y 48, bt y 56] = y := route (ρ := at3 x y 0#64) (by kernel_rfl)
 exact Prod.ext (Eq.trans (by kernel_rfl) ex) (Eq.trans (by kernel_rfl) ey)
def Fits5 (V : VC) : Prop := ∀ f t s a, wOK t = true → V f t s a ≤ maskF t
theorem all_map {V : BitVec 64 → BitVec 64} {m : BitVec 64} (h : ∀ x, V x ≤ m) (l : List (BitVec 64)) : (l.map V).all (fun z => decide (z ≤ m)) = true := by
 rw [List.all_map, List.all_eq_true]
 intro x _
 exact decide_eq_true (h x)
theorem cu_ok {V : VC} (hV : Fits5 V) {w : Int} (hw : wOK w = true) (s : Bool) (a0 a1 : BitVec 64) : okOf 32 (cuL V w s a0 a1) = true := by
 have z : decide (0#64 ≤ maskF 32) = true := by decide
 unfold okOf cuL
 rcases wOK_cases hw with rfl | rfl
 ·rw [if_neg (by decide), List.append_nil, all_map (fun x => hV 32 32 s x rfl), List.length_map, listF_length]; decide
 ·rw [if_pos rfl, List.all_append, all_map (fun x => hV 64 32 s x rfl), List.length_append, List.length_map, listF_length]
  simp only [List.all_cons, List.all_nil, z]; decide
theorem fl_ok {V : VC} (hV : Fits5 V) {w : Int} (hw : wOK w = true) (s : Bool) (a0 a1 : BitVec 64) : okOf w (flL V w s a0 a1) = true := by
 unfold okOf flL
 rcases wOK_cases hw with rfl | rfl
 ·rw [all_map (fun x => hV 32 32 s x rfl), List.length_map, List.length_take, listF_length]; decide
 ·rw [all_map (fun x => hV 32 64 s x rfl), List.length_map, List.length_take, listF_length]; decide
theorem t_vC {V : VC} {E : EC} (h : Snd 53 (CG V E)) (hV : Fits5 V) : Snd 102 (VcG (cuP V) (cuQ V) vcE) := by
 refine Sound.of_pt fun ds d hd => ?_
 split at hd
 ·rename_i w s a0 a1
  cases hd
  cases hw : wOK w
  ·refine (execFn_sound (ann := fun _ => []) (TableOK.cons t_is TableOK.nil) mixed Tryz.func102 (by kernel_rfl) 50).pt ((vC_no s w a0 a1).trans ?_)
   unfold cuP cuQ vcE
   rw [hw]; rfl
  ·have S := execFn_sound (P := Tryz.prog) (G := G0) (ann := annC) (TableOK.cons t_is (TableOK.cons All28.left (TableOK.cons h (TableOK.cons t_of4 TableOK.nil)))) mixed Tryz.func102 (by kernel_rfl) 50
   have fin : okD 32 (cuL V w s a0 a1) = some (.tup [vec (cuP V w s a0 a1) (cuQ V w s a0 a1), .i .i64 (vcE w)]) := by
    unfold okD cuP cuQ vcE
    rw [cu_ok hV hw, hw]; rfl
   rcases wOK_cases hw with rfl | rfl
   ·exact S.pt ((vC_32 V E s a0 a1).trans fin)
   ·exact S.pt ((vC_64 V E s a0 a1).trans fin)
 ·cases hd
theorem t_vF {V : VC} {E : EC} (h : Snd 125 (CG V E)) (hV : Fits5 V) : Snd 101 (VcG (flP V) (flQ V) vcE) := by
 refine Sound.of_pt fun ds d hd => ?_
 split at hd
 ·rename_i w s a0 a1
  cases hd
  cases hw : wOK w
  ·refine (execFn_sound (ann := fun _ => []) (TableOK.cons t_is TableOK.nil) mixed Tryz.func101 (by kernel_rfl) 50).pt ((vF_no s w a0 a1).trans ?_)
   unfold flP flQ vcE
   rw [hw]; rfl
  ·have S := execFn_sound (P := Tryz.prog) (G := G0) (ann := annF) (TableOK.cons t_is (TableOK.cons t_four (TableOK.cons h (TableOK.cons t_of4 TableOK.nil)))) mixed Tryz.func101 (by kernel_rfl) 50
   rcases wOK_cases hw with rfl | rfl
   ·refine S.pt ((vF_32 V E s a0 a1).trans ?_)
    unfold okD flP flQ vcE
    rw [fl_ok hV rfl]; rfl
   ·refine S.pt ((vF_64 V E s a0 a1).trans ?_)
    have e : flL V 64 s a0 a1 = [V 32 64 s (getF a0 a1 32 0), V 32 64 s (getF a0 a1 32 1)] := rfl
    unfold flP flQ vcE
    rw [e, vec2]; rfl
 ·cases hd
abbrev hE : EC := fun f t _ a => errF (L23C.mayC f t a)
theorem v_cut : Snd 102 (VcG (cuP L23C.hV) (cuQ L23C.hV) vcE) := t_vC (E := hE) L23C.t_Held (fun f t s a h => L23C.held_fits h s a)
theorem v_flt : Snd 101 (VcG (flP L23C.fV) (flQ L23C.fV) vcE) := t_vF (E := hE) L23C.t_Float (fun f t s a h => L23C.float_fits h s a)
end Go.L23X
namespace Go.L23X
open Go.L23F (onV onE onV1 onOp sqW sqN sqR wayO f_one oneG)
open Go.L23
open Go.Ev Go.Proofs Go.RowKit Go.Wh Go.Fl
theorem in_on {w : Int} (o : BitVec 8) {a : BitVec 64} (ha : inF w a = true) : inF w (onV1 o w a) = true := by
 have hw := wOK_in ha
 unfold onV1
 split
 ·exact in_and _ ha
 ·split
  ·exact in_xor ha
  ·split
   ·unfold sqW
    split
    ·exact (na_no hw).1
    ·split
     ·exact (na_no hw).1
     ·exact in_bs hw _
   ·split
    ·exact rnW_in _ ha
    ·exact in_zero hw
theorem good_one : Good1 onV onE := ⟨fun o w a hw => by
 unfold onV
 split
 ·rename_i ha
  exact in_le (in_on o ha)
 ·exact in_le (in_zero hw), fun o w a => by
 unfold onE
 split
 ·exact .inl rfl
 ·exact .inr rfl⟩
abbrev B2y := BitVec 8 → Int → BitVec 64 → BitVec 64 → BitVec 64
abbrev E2y := BitVec 8 → Int → BitVec 64 → BitVec 64 → Int
noncomputable def V1G (P Q : B2y) (E : E2y) : Ev.Spec := joined fun | [.u8 o, .i .i64 w, .agg [.u64 a0, .u64 a1]] => some (.tup [vec (P o w a0 a1) (Q o w a0 a1), .i .i64 (E o w a0 a1)]) | _ => none
def okU (U : B1) (Q : E1) (o : BitVec 8) (w : Int) (a0 a1 : BitVec 64) : Bool := okEach w (rO Q o w a0 a1) (lO U o w a0 a1)
def pU : B2y := fun o w a0 a1 => ifF (okU onV onE o w a0 a1) (vecF w (lO onV o w a0 a1)).1
def qU : B2y := fun o w a0 a1 => ifF (okU onV onE o w a0 a1) (vecF w (lO onV o w a0 a1)).2
def eU : E2y := fun o w a0 a1 => errF (okU onV onE o w a0 a1)
theorem h_one : Snd 128 (onH onV onE) := f_one
theorem v_one : Snd 105 (V1G pU qU eU) := t_vOne h_one
end Go.L23X

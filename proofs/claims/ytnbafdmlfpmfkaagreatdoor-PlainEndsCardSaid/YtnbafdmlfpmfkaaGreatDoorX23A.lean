/-
  Part of the proof; what its functions and lemmas say stands in the text.
-/
import Derived.Test.YtnbafdmlfpmfkaaGreatDoorV23B
import Derived.Test.YtnbafdmlfpmfkaaGreatDoorF23A
import Derived.Test.YtnbafdmlfpmfkaaGreatDoorFlC
set_option linter.unusedSimpArgs false
set_option linter.unusedVariables false
namespace Go.L23X
open Go.L23F (WV CV CE twoG thanG)
open Go.L23
open Go.Ev Go.Proofs Go.RowKit Go.Wh Go.Fl
abbrev B1 := BitVec 8 → Int → BitVec 64 → BitVec 64
abbrev E1 := BitVec 8 → Int → BitVec 64 → Int
noncomputable def onH (V : B1) (E : E1) : Ev.Spec := joined fun | [.u8 o, .i .i64 w, .u64 a] => some (.tup [.u64 (V o w a), .i .i64 (E o w a)]) | _ => none
noncomputable def clo2G (N : WV) (R : CE) : Ev.Spec := guarded fun | [.u64 x, .i .i64 i, .ref [.u8 o], .ref [.i .i64 w], .ref [.sl64 y]] => some (decide (0 ≤ i ∧ i < y.length), .tup [.u64 (N o w x (y.getD i.toNat 0#64)), .i .i64 (R o w x (y.getD i.toNat 0#64))]) | _ => none
noncomputable def clo1G (U : B1) (Q : E1) : Ev.Spec := joined fun | [.u64 x, .i .i64 _, .ref [.u8 o], .ref [.i .i64 w]] => some (.tup [.u64 (U o w x), .i .i64 (Q o w x)]) | _ => none
def thV (C : CV) (E : CE) (o : BitVec 8) (w : Int) (a b : BitVec 64) : BitVec 64 := if (E o w a b == 0 && C o w a b) = true then maskF w else 0#64
noncomputable def cloTG (C : CV) (E : CE) : Ev.Spec := guarded fun | [.u64 x, .i .i64 i, .ref [.u8 o], .ref [.i .i64 w], .ref [.sl64 y]] => some (decide (0 ≤ i ∧ i < y.length), .tup [.u64 (thV C E o w x (y.getD i.toNat 0#64)), .i .i64 (E o w x (y.getD i.toNat 0#64))]) | _ => none
theorem clo2 {N : WV} {R : CE} (h : Snd 129 (twoG N R)) : Snd 190 (clo2G N R) := by
 refine Sound.guard (execFn_sound (ann := fun _ => []) (TableOK.cons h TableOK.nil) mixed Tryz.func190 (by kernel_rfl) 50) fun ds d hd => ?_
 split at hd
 ·rename_i x i o w y
  simp only [Option.some.injEq, Prod.mk.injEq, decide_eq_true_eq] at hd
  obtain ⟨⟨h0, h1⟩, rfl⟩ := hd
  have nf : ex [(129, twoG N R)] (fun _ => []) Tryz.f190 [.u64 x, .i .i64 i, .ref [.u8 o], .ref [.i .i64 w], .ref [.sl64 y]] some =
   if 0 ≤ i ∧ i < (y.length : Int) then if 0 + i.toNat * 1 < y.length then some (.tup [.u64 (N o w x (y.getD (0 + i.toNat * 1) 0#64)), .i .i64 (R o w x (y.getD (0 + i.toNat * 1) 0#64))]) else none else none := by kernel_rfl
  refine nf.trans ?_
  have e : 0 + i.toNat * 1 = i.toNat := by omega
  rw [if_pos ⟨h0, h1⟩, if_pos (by omega), e]
 ·cases hd
theorem clo1 {U : B1} {Q : E1} (h : Snd 128 (onH U Q)) : Snd 193 (clo1G U Q) := by
 refine Sound.join (execFn_sound (ann := fun _ => []) (TableOK.cons h TableOK.nil) mixed Tryz.func193 (by kernel_rfl) 50) fun ds d hd => ?_
 split at hd
 ·cases hd; kernel_rfl
 ·cases hd
theorem cloT {C : CV} {E : CE} (h : Snd 131 (thanG C E)) : Snd 204 (cloTG C E) := by
 refine Sound.guard (execFn_sound (ann := fun _ => []) (TableOK.cons h TableOK.nil) mixed Tryz.func204 (by kernel_rfl) 50) fun ds d hd => ?_
 split at hd
 ·rename_i x i o w y
  simp only [Option.some.injEq, Prod.mk.injEq, decide_eq_true_eq] at hd
  obtain ⟨⟨h0, h1⟩, rfl⟩ := hd
  have nf : ex [(131, thanG C E)] (fun _ => []) Tryz.f204 [.u64 x, .i .i64 i, .ref [.u8 o], .ref [.i .i64 w], .ref [.sl64 y]] some =
   if 0 ≤ i ∧ i < (y.length : Int) then if 0 + i.toNat * 1 < y.length then
    if (!(E o w x (y.getD (0 + i.toNat * 1) 0#64) == 0)) = false then if (!C o w x (y.getD (0 + i.toNat * 1) 0#64)) = true then some (.tup [.u64 0#64, .i .i64 (E o w x (y.getD (0 + i.toNat * 1) 0#64))]) else some (.tup [.u64 (maskF w), .i .i64 0])
    else some (.tup [.u64 0#64, .i .i64 (E o w x (y.getD (0 + i.toNat * 1) 0#64))]) else none else none := by kernel_rfl
  refine nf.trans ?_
  have e : 0 + i.toNat * 1 = i.toNat := by omega
  rw [if_pos ⟨h0, h1⟩, if_pos (by omega), e]
  unfold thV
  generalize hE : E o w x (y.getD i.toNat 0#64) = z
  generalize C o w x (y.getD i.toNat 0#64) = c
  by_cases hz : z = 0
  ·subst hz
   cases c <;> rfl
  ·have e1 : (z == 0) = false := by simp [hz]
   simp only [e1, Bool.false_and, Bool.not_false, Bool.true_eq_false, Bool.false_eq_true, if_false]
 ·cases hd
noncomputable def isG : Ev.Spec := joined fun | [.i .i64 w] => some (.bool (wOK w)) | _ => none
theorem t_is : Snd 186 isG := by
 refine Sound.join (execFn_sound (ann := fun _ => []) TableOK.nil mixed Tryz.func186 (by kernel_rfl) 50) fun ds d h => ?_
 split at h
 ·rename_i w
  cases h
  have nf : ex [] (fun _ => []) Tryz.f186 [.i .i64 w] some = if (w == 32) = false then some (.bool (w == 64)) else some (.bool true) := by kernel_rfl
  refine nf.trans ?_
  unfold wOK
  cases (w == 32) <;> rfl
 ·cases h
def eachB (ok : Bool) (w : Int) (l : List (BitVec 64)) : D := .tup [vec (ifF ok (vecF w l).1) (ifF ok (vecF w l).2), .i .i64 (errF ok)]
def okEach (w : Int) (rs : List Int) (l : List (BitVec 64)) : Bool := wOK w && (rs.all (fun r => r == 0) && okOf w l)
def eachV (w : Int) (rs : List Int) (l : List (BitVec 64)) : D := eachB (okEach w rs l) w l
def chainR : List Int → Option D → Option D → Option D
 | [], _, a => a
 | r :: l, e, a => if (!(r == 0)) = true then e else chainR l e a
theorem chainR_eq : ∀ (l : List Int) (e a : Option D), chainR l e a = if l.all (fun r => r == 0) = true then a else e
 | [], _, _ => rfl
 | r :: l, e, a => by
  simp only [chainR, List.all_cons, chainR_eq l]
  have key : ∀ b c : Bool, (if (!b) = true then e else if c = true then a else e) = if (b && c) = true then a else e := by
   intro b c; cases b <;> cases c <;> rfl
  exact key _ _
theorem each_fin {w : Int} (hw : wOK w = true) (rs : List Int) (l : List (BitVec 64)) : chainR rs (some ofErr) (some (eachB (okOf w l) w l)) = some (eachV w rs l) := by
 rw [chainR_eq]
 unfold eachV okEach
 rw [hw, Bool.true_and]
 cases rs.all fun r => r == 0
 ·rfl
 ·rfl
theorem each_no {w : Int} (h : wOK w = false) (rs : List Int) (l : List (BitVec 64)) : eachV w rs l = ofErr := by
 unfold eachV okEach
 rw [h]; rfl
def annE : Nat → List Nat := fun | 5 => [0, 2, 6, 8, 24, 25, 26] | _ => []
theorem each2_32 (N : WV) (R : CE) (o : BitVec 8) (v : Int) (a0 a1 : BitVec 64) (y0 y1 y2 y3 : BitVec 64) : ex [(186, isG), (182, left allF), (190, clo2G N R), (79, OfS)] annE Tryz.f189 [.i .i64 32, vec a0 a1, .clo 190 [.ref [.u8 o], .ref [.i .i64 v], .ref [.sl64 [y0, y1, y2, y3]]]] some =
 chainR (List.zipWith (R o v) (listF a0 a1 32) [y0, y1, y2, y3]) (some ofErr) (some (eachB (okOf 32 (List.zipWith (N o v) (listF a0 a1 32) [y0, y1, y2, y3])) 32 (List.zipWith (N o v) (listF a0 a1 32) [y0, y1, y2, y3]))) := by kernel_rfl
theorem each2_64 (N : WV) (R : CE) (o : BitVec 8) (v : Int) (a0 a1 : BitVec 64) (y0 y1 : BitVec 64) : ex [(186, isG), (182, left allF), (190, clo2G N R), (79, OfS)] annE Tryz.f189 [.i .i64 64, vec a0 a1, .clo 190 [.ref [.u8 o], .ref [.i .i64 v], .ref [.sl64 [y0, y1]]]] some =
 chainR (List.zipWith (R o v) (listF a0 a1 64) [y0, y1]) (some ofErr) (some (eachB (okOf 64 (List.zipWith (N o v) (listF a0 a1 64) [y0, y1])) 64 (List.zipWith (N o v) (listF a0 a1 64) [y0, y1]))) := by kernel_rfl
theorem each1_32 (U : B1) (Q : E1) (o : BitVec 8) (v : Int) (a0 a1 : BitVec 64) : ex [(186, isG), (182, left allF), (193, clo1G U Q), (79, OfS)] annE Tryz.f189 [.i .i64 32, vec a0 a1, .clo 193 [.ref [.u8 o], .ref [.i .i64 v]]] some =
 chainR ((listF a0 a1 32).map (Q o v)) (some ofErr) (some (eachB (okOf 32 ((listF a0 a1 32).map (U o v))) 32 ((listF a0 a1 32).map (U o v)))) := by kernel_rfl
theorem each1_64 (U : B1) (Q : E1) (o : BitVec 8) (v : Int) (a0 a1 : BitVec 64) : ex [(186, isG), (182, left allF), (193, clo1G U Q), (79, OfS)] annE Tryz.f189 [.i .i64 64, vec a0 a1, .clo 193 [.ref [.u8 o], .ref [.i .i64 v]]] some =
 chainR ((listF a0 a1 64).map (Q o v)) (some ofErr) (some (eachB (okOf 64 ((listF a0 a1 64).map (U o v))) 64 ((listF a0 a1 64).map (U o v)))) := by kernel_rfl
theorem eachT_32 (C : CV) (E : CE) (o : BitVec 8) (v : Int) (a0 a1 : BitVec 64) (y0 y1 y2 y3 : BitVec 64) : ex [(186, isG), (182, left allF), (204, cloTG C E), (79, OfS)] annE Tryz.f189 [.i .i64 32, vec a0 a1, .clo 204 [.ref [.u8 o], .ref [.i .i64 v], .ref [.sl64 [y0, y1, y2, y3]]]] some =
 chainR (List.zipWith (E o v) (listF a0 a1 32) [y0, y1, y2, y3]) (some ofErr) (some (eachB (okOf 32 (List.zipWith (thV C E o v) (listF a0 a1 32) [y0, y1, y2, y3])) 32 (List.zipWith (thV C E o v) (listF a0 a1 32) [y0, y1, y2, y3]))) := by kernel_rfl
theorem eachT_64 (C : CV) (E : CE) (o : BitVec 8) (v : Int) (a0 a1 : BitVec 64) (y0 y1 : BitVec 64) : ex [(186, isG), (182, left allF), (204, cloTG C E), (79, OfS)] annE Tryz.f189 [.i .i64 64, vec a0 a1, .clo 204 [.ref [.u8 o], .ref [.i .i64 v], .ref [.sl64 [y0, y1]]]] some =
 chainR (List.zipWith (E o v) (listF a0 a1 64) [y0, y1]) (some ofErr) (some (eachB (okOf 64 (List.zipWith (thV C E o v) (listF a0 a1 64) [y0, y1])) 64 (List.zipWith (thV C E o v) (listF a0 a1 64) [y0, y1]))) := by kernel_rfl
theorem len4 {l : List (BitVec 64)} (h : l.length = 4) : ∃ y0 y1 y2 y3, l = [y0, y1, y2, y3] := by
 match l, h with
 | [y0, y1, y2, y3], _ => exact ⟨_, _, _, _, rfl⟩
theorem len2 {l : List (BitVec 64)} (h : l.length = 2) : ∃ y0 y1, l = [y0, y1] := by
 match l, h with
 | [y0, y1], _ => exact ⟨_, _, rfl⟩
theorem each_bad {w : Int} (h : wOK w = false) (a0 a1 : BitVec 64) (c : D) (hc : ex [(186, isG)] (fun _ => []) Tryz.f189 [.i .i64 w, vec a0 a1, c] some = if (!wOK w) = true then some ofErr else none) : Pt Tryz.prog G0 189 [.i .i64 w, vec a0 a1, c] ofErr := by
 refine (execFn_sound (ann := fun _ => []) (TableOK.cons t_is TableOK.nil) mixed Tryz.func189 (by kernel_rfl) 50).pt (hc.trans ?_)
 rw [h]; rfl
noncomputable def each2S (N : WV) (R : CE) : Ev.Spec := guarded fun
 | [.i .i64 w, .agg [.u64 a0, .u64 a1], .clo 190 [.ref [.u8 o], .ref [.i .i64 v], .ref [.sl64 y]]] => some (!wOK w || decide (y.length = (128 / w).toNat), eachV w (List.zipWith (R o v) (listF a0 a1 w) y) (List.zipWith (N o v) (listF a0 a1 w) y))
 | [.i .i64 w, .agg [.u64 _, .u64 _], .clo 190 [.ref [.u8 _], .ref [.i .i64 _], .ref [.c (.slice none 0 0)]]] => some (!wOK w, ofErr)
 | _ => none
theorem t_each2 {N : WV} {R : CE} (h : Snd 129 (twoG N R)) : Snd 189 (each2S N R) := by
 refine Sound.of_ptG fun ds d hd => ?_
 split at hd
 ·rename_i w a0 a1 o v y
  simp only [Option.some.injEq, Prod.mk.injEq] at hd
  obtain ⟨hg, rfl⟩ := hd
  cases hw : wOK w
  ·rw [each_no hw]
   exact each_bad hw a0 a1 _ (by kernel_rfl)
  ·have hy : y.length = (128 / w).toNat := by simpa [hw] using hg
   have S := execFn_sound (P := Tryz.prog) (G := G0) (ann := annE) (TableOK.cons t_is (TableOK.cons All28.left (TableOK.cons (clo2 h) (TableOK.cons (OfJ Of30) TableOK.nil)))) mixed Tryz.func189 (by kernel_rfl) 50
   rcases wOK_cases hw with rfl | rfl
   ·obtain ⟨y0, y1, y2, y3, rfl⟩ := len4 (l := y) (by simpa using hy)
    exact S.pt ((each2_32 N R o v a0 a1 y0 y1 y2 y3).trans (each_fin rfl _ _))
   ·obtain ⟨y0, y1, rfl⟩ := len2 (l := y) (by simpa using hy)
    exact S.pt ((each2_64 N R o v a0 a1 y0 y1).trans (each_fin rfl _ _))
 ·rename_i w a0 a1 o v
  simp only [Option.some.injEq, Prod.mk.injEq] at hd
  obtain ⟨hg, rfl⟩ := hd
  have hw : wOK w = false := by simpa using hg
  exact each_bad hw a0 a1 _ (by kernel_rfl)
 ·cases hd
noncomputable def each1S (U : B1) (Q : E1) : Ev.Spec := joined fun
 | [.i .i64 w, .agg [.u64 a0, .u64 a1], .clo 193 [.ref [.u8 o], .ref [.i .i64 v]]] => some (eachV w ((listF a0 a1 w).map (Q o v)) ((listF a0 a1 w).map (U o v)))
 | _ => none
theorem t_each1 {U : B1} {Q : E1} (h : Snd 128 (onH U Q)) : Snd 189 (each1S U Q) := by
 refine Sound.of_pt fun ds d hd => ?_
 split at hd
 ·rename_i w a0 a1 o v
  cases hd
  cases hw : wOK w
  ·rw [each_no hw]
   exact each_bad hw a0 a1 _ (by kernel_rfl)
  ·have S := execFn_sound (P := Tryz.prog) (G := G0) (ann := annE) (TableOK.cons t_is (TableOK.cons All28.left (TableOK.cons (clo1 h) (TableOK.cons (OfJ Of30) TableOK.nil)))) mixed Tryz.func189 (by kernel_rfl) 50
   rcases wOK_cases hw with rfl | rfl
   ·exact S.pt ((each1_32 U Q o v a0 a1).trans (each_fin rfl _ _))
   ·exact S.pt ((each1_64 U Q o v a0 a1).trans (each_fin rfl _ _))
 ·cases hd
noncomputable def eachTS (C : CV) (E : CE) : Ev.Spec := guarded fun
 | [.i .i64 w, .agg [.u64 a0, .u64 a1], .clo 204 [.ref [.u8 o], .ref [.i .i64 v], .ref [.sl64 y]]] => some (!wOK w || decide (y.length = (128 / w).toNat), eachV w (List.zipWith (E o v) (listF a0 a1 w) y) (List.zipWith (thV C E o v) (listF a0 a1 w) y))
 | [.i .i64 w, .agg [.u64 _, .u64 _], .clo 204 [.ref [.u8 _], .ref [.i .i64 _], .ref [.c (.slice none 0 0)]]] => some (!wOK w, ofErr)
 | _ => none
theorem t_eachT {C : CV} {E : CE} (h : Snd 131 (thanG C E)) : Snd 189 (eachTS C E) := by
 refine Sound.of_ptG fun ds d hd => ?_
 split at hd
 ·rename_i w a0 a1 o v y
  simp only [Option.some.injEq, Prod.mk.injEq] at hd
  obtain ⟨hg, rfl⟩ := hd
  cases hw : wOK w
  ·rw [each_no hw]
   exact each_bad hw a0 a1 _ (by kernel_rfl)
  ·have hy : y.length = (128 / w).toNat := by simpa [hw] using hg
   have S := execFn_sound (P := Tryz.prog) (G := G0) (ann := annE) (TableOK.cons t_is (TableOK.cons All28.left (TableOK.cons (cloT h) (TableOK.cons (OfJ Of30) TableOK.nil)))) mixed Tryz.func189 (by kernel_rfl) 50
   rcases wOK_cases hw with rfl | rfl
   ·obtain ⟨y0, y1, y2, y3, rfl⟩ := len4 (l := y) (by simpa using hy)
    exact S.pt ((eachT_32 C E o v a0 a1 y0 y1 y2 y3).trans (each_fin rfl _ _))
   ·obtain ⟨y0, y1, rfl⟩ := len2 (l := y) (by simpa using hy)
    exact S.pt ((eachT_64 C E o v a0 a1 y0 y1).trans (each_fin rfl _ _))
 ·rename_i w a0 a1 o v
  simp only [Option.some.injEq, Prod.mk.injEq] at hd
  obtain ⟨hg, rfl⟩ := hd
  have hw : wOK w = false := by simpa using hg
  exact each_bad hw a0 a1 _ (by kernel_rfl)
 ·cases hd
end Go.L23X
namespace Go.L23X
open Go.L23F (WV CV CE twoG thanG)
open Go.L23
open Go.Ev Go.Proofs Go.RowKit Go.Wh Go.Fl
def lT (N : WV) (o : BitVec 8) (w : Int) (a0 a1 b0 b1 : BitVec 64) : List (BitVec 64) := List.zipWith (N o w) (listF a0 a1 w) (listF b0 b1 w)
def rT (R : CE) (o : BitVec 8) (w : Int) (a0 a1 b0 b1 : BitVec 64) : List Int := List.zipWith (R o w) (listF a0 a1 w) (listF b0 b1 w)
def lO (U : B1) (o : BitVec 8) (w : Int) (a0 a1 : BitVec 64) : List (BitVec 64) := (listF a0 a1 w).map (U o w)
def rO (Q : E1) (o : BitVec 8) (w : Int) (a0 a1 : BitVec 64) : List Int := (listF a0 a1 w).map (Q o w)
noncomputable def VtwoS (N : WV) (R : CE) : Ev.Spec := joined fun | [.u8 o, .i .i64 w, .agg [.u64 a0, .u64 a1], .agg [.u64 b0, .u64 b1]] => some (eachV w (rT R o w a0 a1 b0 b1) (lT N o w a0 a1 b0 b1)) | _ => none
noncomputable def VoneS (U : B1) (Q : E1) : Ev.Spec := joined fun | [.u8 o, .i .i64 w, .agg [.u64 a0, .u64 a1]] => some (eachV w (rO Q o w a0 a1) (lO U o w a0 a1)) | _ => none
theorem okW_of {w : Int} (h : wOK w = true) : okW w = true := by rcases wOK_cases h with rfl | rfl <;> decide
theorem vTwo_8 (N : WV) (R : CE) (o : BitVec 8) (a0 a1 b0 b1 : BitVec 64) : ex [(182, left allF), (189, each2S N R)] (fun _ => []) Tryz.f103 [.u8 o, .i .i64 8, vec a0 a1, vec b0 b1] some = some ofErr := by kernel_rfl
theorem vTh_8 (C : CV) (E : CE) (o : BitVec 8) (a0 a1 b0 b1 : BitVec 64) : ex [(182, left allF), (189, eachTS C E)] (fun _ => []) Tryz.f113 [.u8 o, .i .i64 8, vec a0 a1, vec b0 b1] some = some ofErr := by kernel_rfl
theorem vTwo_16 (N : WV) (R : CE) (o : BitVec 8) (a0 a1 b0 b1 : BitVec 64) : ex [(182, left allF), (189, each2S N R)] (fun _ => []) Tryz.f103 [.u8 o, .i .i64 16, vec a0 a1, vec b0 b1] some = some ofErr := by kernel_rfl
theorem vTh_16 (C : CV) (E : CE) (o : BitVec 8) (a0 a1 b0 b1 : BitVec 64) : ex [(182, left allF), (189, eachTS C E)] (fun _ => []) Tryz.f113 [.u8 o, .i .i64 16, vec a0 a1, vec b0 b1] some = some ofErr := by kernel_rfl
theorem vTwo_32 (N : WV) (R : CE) (o : BitVec 8) (a0 a1 b0 b1 : BitVec 64) : ex [(182, left allF), (189, each2S N R)] (fun _ => []) Tryz.f103 [.u8 o, .i .i64 32, vec a0 a1, vec b0 b1] some =
 some (eachV 32 (rT R o 32 a0 a1 b0 b1) (lT N o 32 a0 a1 b0 b1)) := by kernel_rfl
theorem vTh_32 (C : CV) (E : CE) (o : BitVec 8) (a0 a1 b0 b1 : BitVec 64) : ex [(182, left allF), (189, eachTS C E)] (fun _ => []) Tryz.f113 [.u8 o, .i .i64 32, vec a0 a1, vec b0 b1] some =
 some (eachV 32 (rT E o 32 a0 a1 b0 b1) (lT (thV C E) o 32 a0 a1 b0 b1)) := by kernel_rfl
theorem vTwo_64 (N : WV) (R : CE) (o : BitVec 8) (a0 a1 b0 b1 : BitVec 64) : ex [(182, left allF), (189, each2S N R)] (fun _ => []) Tryz.f103 [.u8 o, .i .i64 64, vec a0 a1, vec b0 b1] some =
 some (eachV 64 (rT R o 64 a0 a1 b0 b1) (lT N o 64 a0 a1 b0 b1)) := by kernel_rfl
theorem vTh_64 (C : CV) (E : CE) (o : BitVec 8) (a0 a1 b0 b1 : BitVec 64) : ex [(182, left allF), (189, eachTS C E)] (fun _ => []) Tryz.f113 [.u8 o, .i .i64 64, vec a0 a1, vec b0 b1] some =
 some (eachV 64 (rT E o 64 a0 a1 b0 b1) (lT (thV C E) o 64 a0 a1 b0 b1)) := by kernel_rfl
theorem vTwo_no (N : WV) (R : CE) (o : BitVec 8) (w : Int) (a0 a1 b0 b1 : BitVec 64) : ex [(182, right allF), (189, each2S N R)] (fun _ => []) Tryz.f103 [.u8 o, .i .i64 w, vec a0 a1, vec b0 b1] some =
 (if (!okW w) = true then (if (!wOK w) = true then some ofErr else none) else none) := by kernel_rfl
theorem vTh_no (C : CV) (E : CE) (o : BitVec 8) (w : Int) (a0 a1 b0 b1 : BitVec 64) : ex [(182, right allF), (189, eachTS C E)] (fun _ => []) Tryz.f113 [.u8 o, .i .i64 w, vec a0 a1, vec b0 b1] some =
 (if (!okW w) = true then (if (!wOK w) = true then some ofErr else none) else none) := by kernel_rfl
theorem vOne_any (U : B1) (Q : E1) (o : BitVec 8) (w : Int) (a0 a1 : BitVec 64) : ex [(189, each1S U Q)] (fun _ => []) Tryz.f105 [.u8 o, .i .i64 w, vec a0 a1] some = some (eachV w (rO Q o w a0 a1) (lO U o w a0 a1)) := by kernel_rfl
theorem t_vTwo {N : WV} {R : CE} (h : Snd 129 (twoG N R)) : Snd 103 (VtwoS N R) := by
 refine Sound.of_pt fun ds d hd => ?_
 split at hd
 ·rename_i o w a0 a1 b0 b1
  cases hd
  cases hw : okW w
  ·have hw2 : wOK w = false := by
    cases h2 : wOK w
    ·rfl
    ·rw [okW_of h2] at hw; cases hw
   rw [each_no hw2]
   refine (execFn_sound (ann := fun _ => []) (TableOK.cons All28.right (TableOK.cons (t_each2 h) TableOK.nil)) mixed Tryz.func103 (by kernel_rfl) 50).pt ((vTwo_no N R o w a0 a1 b0 b1).trans ?_)
   rw [hw, hw2]; rfl
  ·have S := execFn_sound (P := Tryz.prog) (G := G0) (ann := fun _ => []) (TableOK.cons All28.left (TableOK.cons (t_each2 h) TableOK.nil)) mixed Tryz.func103 (by kernel_rfl) 50
   rcases okW_cases hw with rfl | rfl | rfl | rfl
   ·rw [each_no (by decide)]
    exact S.pt (vTwo_8 N R o a0 a1 b0 b1)
   ·rw [each_no (by decide)]
    exact S.pt (vTwo_16 N R o a0 a1 b0 b1)
   ·exact S.pt (vTwo_32 N R o a0 a1 b0 b1)
   ·exact S.pt (vTwo_64 N R o a0 a1 b0 b1)
 ·cases hd
theorem t_vTh {C : CV} {E : CE} (h : Snd 131 (thanG C E)) : Snd 113 (VtwoS (thV C E) E) := by
 refine Sound.of_pt fun ds d hd => ?_
 split at hd
 ·rename_i o w a0 a1 b0 b1
  cases hd
  cases hw : okW w
  ·have hw2 : wOK w = false := by
    cases h2 : wOK w
    ·rfl
    ·rw [okW_of h2] at hw; cases hw
   rw [each_no hw2]
   refine (execFn_sound (ann := fun _ => []) (TableOK.cons All28.right (TableOK.cons (t_eachT h) TableOK.nil)) mixed Tryz.func113 (by kernel_rfl) 50).pt ((vTh_no C E o w a0 a1 b0 b1).trans ?_)
   rw [hw, hw2]; rfl
  ·have S := execFn_sound (P := Tryz.prog) (G := G0) (ann := fun _ => []) (TableOK.cons All28.left (TableOK.cons (t_eachT h) TableOK.nil)) mixed Tryz.func113 (by kernel_rfl) 50
   rcases okW_cases hw with rfl | rfl | rfl | rfl
   ·rw [each_no (by decide)]
    exact S.pt (vTh_8 C E o a0 a1 b0 b1)
   ·rw [each_no (by decide)]
    exact S.pt (vTh_16 C E o a0 a1 b0 b1)
   ·exact S.pt (vTh_32 C E o a0 a1 b0 b1)
   ·exact S.pt (vTh_64 C E o a0 a1 b0 b1)
 ·cases hd
theorem t_vOne {U : B1} {Q : E1} (h : Snd 128 (onH U Q)) : Snd 105 (VoneS U Q) := by
 refine Sound.join (execFn_sound (ann := fun _ => []) (TableOK.cons (t_each1 h) TableOK.nil) mixed Tryz.func105 (by kernel_rfl) 50) fun ds d hd => ?_
 split at hd
 ·cases hd; exact vOne_any _ _ _ _ _ _
 ·cases hd
structure Good1 (U : B1) (Q : E1) : Prop where
 fits : ∀ o w a, wOK w = true → U o w a ≤ maskF w
 err : ∀ o w a, Q o w a = 0 ∨ Q o w a = 2
theorem th_fits (C : CV) (E : CE) (o : BitVec 8) (w : Int) (a b : BitVec 64) : thV C E o w a b ≤ maskF w := by
 unfold thV
 split
 ·exact BitVec.le_refl _
 ·rw [BitVec.le_def]; exact Nat.zero_le _
end Go.L23X
namespace Go.L23X
open Go.L23F (WV CV CE twoG thanG f_two f_than)
open Go.L23
open Go.Ev Go.Proofs Go.RowKit Go.Wh Go.Fl
abbrev B2x := BitVec 8 → Int → BitVec 64 → BitVec 64 → BitVec 64 → BitVec 64 → BitVec 64
abbrev E2x := BitVec 8 → Int → BitVec 64 → BitVec 64 → BitVec 64 → BitVec 64 → Int
noncomputable def V2G (P Q : B2x) (E : E2x) : Ev.Spec := joined fun | [.u8 o, .i .i64 w, .agg [.u64 a0, .u64 a1], .agg [.u64 b0, .u64 b1]] => some (.tup [vec (P o w a0 a1 b0 b1) (Q o w a0 a1 b0 b1), .i .i64 (E o w a0 a1 b0 b1)]) | _ => none
def okV (N : WV) (R : CE) (o : BitVec 8) (w : Int) (a0 a1 b0 b1 : BitVec 64) : Bool := okEach w (rT R o w a0 a1 b0 b1) (lT N o w a0 a1 b0 b1)
def pV (N : WV) (R : CE) : B2x := fun o w a0 a1 b0 b1 => ifF (okV N R o w a0 a1 b0 b1) (vecF w (lT N o w a0 a1 b0 b1)).1
def qV (N : WV) (R : CE) : B2x := fun o w a0 a1 b0 b1 => ifF (okV N R o w a0 a1 b0 b1) (vecF w (lT N o w a0 a1 b0 b1)).2
def eV (N : WV) (R : CE) : E2x := fun o w a0 a1 b0 b1 => errF (okV N R o w a0 a1 b0 b1)
theorem V2_of {f : Nat} {N : WV} {R : CE} (h : Snd f (VtwoS N R)) : Snd f (V2G (pV N R) (qV N R) (eV N R)) := h
theorem v_two : Snd 103 (V2G (pV ftwV ftwE) (qV ftwV ftwE) (eV ftwV ftwE)) := V2_of (t_vTwo f_two)
theorem v_than : Snd 113 (V2G (pV (thV fthV fthE) fthE) (qV (thV fthV fthE) fthE) (eV (thV fthV fthE) fthE)) := V2_of (t_vTh f_than)
section
variable {H : Type} {enc : TypeId × Value → H} {W : World} {base b0 : Nat} {spare : Nat → Bool} {held : Bool} {r : Reach} {own : Option Nat} {v : Value} {d : DataW H} {p : List MemPlace}
end
end Go.L23X

/-
  Part of the proof; what its functions and lemmas say stands in the text.
-/
import Derived.Test.YtlicpmhlphhabaaDoorW07a
set_option linter.unusedSimpArgs false
set_option linter.unusedVariables false
/-!
Vectors of whole numbers: what is made of each lane.
-/
namespace Go.L07
open Go.Ev Go.Proofs Go.RowKit Go.Wh

noncomputable def eachS (N : B2) (R : E2) (U : B1) (Q : E1) (C : C2) (E : E2) : Ev.Spec := guarded fun
  | [.i .i64 w, .agg [.u64 a0, .u64 a1], .clo 43 [.ref [.u8 o], .ref [.i .i64 v], .ref [.sl64 y]]] => some (!okW w || decide (y.length = (128 / w).toNat), eachV w (List.zipWith (R o v) (listF a0 a1 w) y) (List.zipWith (N o v) (listF a0 a1 w) y))
  | [.i .i64 w, .agg [.u64 a0, .u64 a1], .clo 58 [.ref [.u8 o], .ref [.i .i64 v]]] => some (true, eachV w ((listF a0 a1 w).map (Q o v)) ((listF a0 a1 w).map (U o v)))
  | [.i .i64 w, .agg [.u64 a0, .u64 a1], .clo 61 [.ref [.u8 o], .ref [.i .i64 v], .ref [.u64 n]]] => some (!okW w || okW v, eachV w ((listF a0 a1 w).map (fun x => R o v x (n % BitVec.ofInt 64 v))) ((listF a0 a1 w).map (fun x => N o v x (n % BitVec.ofInt 64 v))))
  | [.i .i64 w, .agg [.u64 a0, .u64 a1], .clo 65 [.ref [.u8 o], .ref [.i .i64 v], .ref [.sl64 y]]] => some (!okW w || decide (y.length = (128 / w).toNat), eachV w (List.zipWith (E o v) (listF a0 a1 w) y) (List.zipWith (thV C E o v) (listF a0 a1 w) y))
  | _ => none
/-- The closure is not called. -/
theorem each_bad {w : Int} (h : okW w = false) (a0 a1 : BitVec 64) (c : D) (hc : ex [(41, right allF)] (fun _ => []) Tryd.f42 [.i .i64 w, vec a0 a1, c] some = if (!okW w) = true then some ofErr else none) : Pt Tryd.prog G0 42 [.i .i64 w, vec a0 a1, c] ofErr := by
  refine (execFn_sound (ann := fun _ => []) (TableOK.cons All28.right TableOK.nil) mixed Tryd.func42 (by kernel_rfl) 50).pt (hc.trans ?_)
  rw [h]; rfl
theorem len16 {l : List (BitVec 64)} (h : l.length = 16) : ∃ y0 y1 y2 y3 y4 y5 y6 y7 y8 y9 y10 y11 y12 y13 y14 y15, l = [y0, y1, y2, y3, y4, y5, y6, y7, y8, y9, y10, y11, y12, y13, y14, y15] := by
  match l, h with
  | [y0, y1, y2, y3, y4, y5, y6, y7, y8, y9, y10, y11, y12, y13, y14, y15], _ => exact ⟨_, _, _, _, _, _, _, _, _, _, _, _, _, _, _, _, rfl⟩
theorem len8 {l : List (BitVec 64)} (h : l.length = 8) : ∃ y0 y1 y2 y3 y4 y5 y6 y7, l = [y0, y1, y2, y3, y4, y5, y6, y7] := by
  match l, h with
  | [y0, y1, y2, y3, y4, y5, y6, y7], _ => exact ⟨_, _, _, _, _, _, _, _, rfl⟩
theorem len4 {l : List (BitVec 64)} (h : l.length = 4) : ∃ y0 y1 y2 y3, l = [y0, y1, y2, y3] := by
  match l, h with
  | [y0, y1, y2, y3], _ => exact ⟨_, _, _, _, rfl⟩
theorem len2 {l : List (BitVec 64)} (h : l.length = 2) : ∃ y0 y1, l = [y0, y1] := by
  match l, h with
  | [y0, y1], _ => exact ⟨_, _, rfl⟩
theorem each2_pt {N : B2} {R : E2} (h2 : Snd 43 (clo2G N R)) {w : Int} (hw : okW w = true) (o : BitVec 8) (v : Int) (a0 a1 : BitVec 64) (y : List (BitVec 64)) (hy : y.length = (128 / w).toNat) : Pt Tryd.prog G0 42 [.i .i64 w, .agg [.u64 a0, .u64 a1], .clo 43 [.ref [.u8 o], .ref [.i .i64 v], .ref [.sl64 y]]] (eachV w (List.zipWith (R o v) (listF a0 a1 w) y) (List.zipWith (N o v) (listF a0 a1 w) y)) := by
  have S := execFn_sound (P := Tryd.prog) (G := G0) (ann := annE) (TableOK.cons All28.left (TableOK.cons h2 (TableOK.cons (OfJ Of30) TableOK.nil))) mixed Tryd.func42 (by kernel_rfl) 50
  rcases okW_cases hw with rfl | rfl | rfl | rfl
  · obtain ⟨y0, y1, y2, y3, y4, y5, y6, y7, y8, y9, y10, y11, y12, y13, y14, y15, rfl⟩ := len16 (l := y) (by simpa using hy)
    exact S.pt ((each2_8 N R o v a0 a1 y0 y1 y2 y3 y4 y5 y6 y7 y8 y9 y10 y11 y12 y13 y14 y15).trans (each_fin 8 _ _))
  · obtain ⟨y0, y1, y2, y3, y4, y5, y6, y7, rfl⟩ := len8 (l := y) (by simpa using hy)
    exact S.pt ((each2_16 N R o v a0 a1 y0 y1 y2 y3 y4 y5 y6 y7).trans (each_fin 16 _ _))
  · obtain ⟨y0, y1, y2, y3, rfl⟩ := len4 (l := y) (by simpa using hy)
    exact S.pt ((each2_32 N R o v a0 a1 y0 y1 y2 y3).trans (each_fin 32 _ _))
  · obtain ⟨y0, y1, rfl⟩ := len2 (l := y) (by simpa using hy)
    exact S.pt ((each2_64 N R o v a0 a1 y0 y1).trans (each_fin 64 _ _))
theorem each1_pt {U : B1} {Q : E1} (h1 : Snd 58 (clo1G U Q)) {w : Int} (hw : okW w = true) (o : BitVec 8) (v : Int) (a0 a1 : BitVec 64) : Pt Tryd.prog G0 42 [.i .i64 w, .agg [.u64 a0, .u64 a1], .clo 58 [.ref [.u8 o], .ref [.i .i64 v]]] (eachV w ((listF a0 a1 w).map (Q o v)) ((listF a0 a1 w).map (U o v))) := by
  have S := execFn_sound (P := Tryd.prog) (G := G0) (ann := annE) (TableOK.cons All28.left (TableOK.cons h1 (TableOK.cons (OfJ Of30) TableOK.nil))) mixed Tryd.func42 (by kernel_rfl) 50
  rcases okW_cases hw with rfl | rfl | rfl | rfl
  · exact S.pt ((each1_8 U Q o v a0 a1).trans (each_fin 8 _ _))
  · exact S.pt ((each1_16 U Q o v a0 a1).trans (each_fin 16 _ _))
  · exact S.pt ((each1_32 U Q o v a0 a1).trans (each_fin 32 _ _))
  · exact S.pt ((each1_64 U Q o v a0 a1).trans (each_fin 64 _ _))
theorem eachS_pt {N : B2} {R : E2} (hs : Snd 61 (cloSG N R)) {w : Int} (hw : okW w = true) (o : BitVec 8) (v : Int) (a0 a1 : BitVec 64) (n : BitVec 64) (hv : okW v = true) : Pt Tryd.prog G0 42 [.i .i64 w, .agg [.u64 a0, .u64 a1], .clo 61 [.ref [.u8 o], .ref [.i .i64 v], .ref [.u64 n]]] (eachV w ((listF a0 a1 w).map (fun x => R o v x (n % BitVec.ofInt 64 v))) ((listF a0 a1 w).map (fun x => N o v x (n % BitVec.ofInt 64 v)))) := by
  have S := execFn_sound (P := Tryd.prog) (G := G0) (ann := annE) (TableOK.cons All28.left (TableOK.cons hs (TableOK.cons (OfJ Of30) TableOK.nil))) mixed Tryd.func42 (by kernel_rfl) 50
  rcases okW_cases hw with rfl | rfl | rfl | rfl
  · exact S.pt ((eachS_8 N R o a0 a1 n v hv).trans (each_fin 8 _ _))
  · exact S.pt ((eachS_16 N R o a0 a1 n v hv).trans (each_fin 16 _ _))
  · exact S.pt ((eachS_32 N R o a0 a1 n v hv).trans (each_fin 32 _ _))
  · exact S.pt ((eachS_64 N R o a0 a1 n v hv).trans (each_fin 64 _ _))
theorem eachT_pt {C : C2} {E : E2} (ht : Snd 65 (cloTG C E)) {w : Int} (hw : okW w = true) (o : BitVec 8) (v : Int) (a0 a1 : BitVec 64) (y : List (BitVec 64)) (hy : y.length = (128 / w).toNat) : Pt Tryd.prog G0 42 [.i .i64 w, .agg [.u64 a0, .u64 a1], .clo 65 [.ref [.u8 o], .ref [.i .i64 v], .ref [.sl64 y]]] (eachV w (List.zipWith (E o v) (listF a0 a1 w) y) (List.zipWith (thV C E o v) (listF a0 a1 w) y)) := by
  have S := execFn_sound (P := Tryd.prog) (G := G0) (ann := annE) (TableOK.cons All28.left (TableOK.cons ht (TableOK.cons (OfJ Of30) TableOK.nil))) mixed Tryd.func42 (by kernel_rfl) 50
  rcases okW_cases hw with rfl | rfl | rfl | rfl
  · obtain ⟨y0, y1, y2, y3, y4, y5, y6, y7, y8, y9, y10, y11, y12, y13, y14, y15, rfl⟩ := len16 (l := y) (by simpa using hy)
    exact S.pt ((eachT_8 C E o v a0 a1 y0 y1 y2 y3 y4 y5 y6 y7 y8 y9 y10 y11 y12 y13 y14 y15).trans (each_fin 8 _ _))
  · obtain ⟨y0, y1, y2, y3, y4, y5, y6, y7, rfl⟩ := len8 (l := y) (by simpa using hy)
    exact S.pt ((eachT_16 C E o v a0 a1 y0 y1 y2 y3 y4 y5 y6 y7).trans (each_fin 16 _ _))
  · obtain ⟨y0, y1, y2, y3, rfl⟩ := len4 (l := y) (by simpa using hy)
    exact S.pt ((eachT_32 C E o v a0 a1 y0 y1 y2 y3).trans (each_fin 32 _ _))
  · obtain ⟨y0, y1, rfl⟩ := len2 (l := y) (by simpa using hy)
    exact S.pt ((eachT_64 C E o v a0 a1 y0 y1).trans (each_fin 64 _ _))
theorem t_each {N : B2} {R : E2} {U : B1} {Q : E1} {C : C2} {E : E2} (h2 : Snd 43 (clo2G N R)) (h1 : Snd 58 (clo1G U Q)) (hs : Snd 61 (cloSG N R)) (ht : Snd 65 (cloTG C E)) : Snd 42 (eachS N R U Q C E) := by
  refine Sound.of_ptG fun ds d hd => ?_
  split at hd
  · rename_i w a0 a1 o v y
    simp only [Option.some.injEq, Prod.mk.injEq] at hd
    obtain ⟨hg, rfl⟩ := hd
    cases hw : okW w
    · rw [each_no hw]
      exact each_bad hw a0 a1 _ (by kernel_rfl)
    · exact each2_pt h2 hw o v a0 a1 y (by simpa [hw] using hg)
  · rename_i w a0 a1 o v
    simp only [Option.some.injEq, Prod.mk.injEq] at hd
    obtain ⟨_, rfl⟩ := hd
    cases hw : okW w
    · rw [each_no hw]
      exact each_bad hw a0 a1 _ (by kernel_rfl)
    · exact each1_pt h1 hw o v a0 a1
  · rename_i w a0 a1 o v n
    simp only [Option.some.injEq, Prod.mk.injEq] at hd
    obtain ⟨hg, rfl⟩ := hd
    cases hw : okW w
    · rw [each_no hw]
      exact each_bad hw a0 a1 _ (by kernel_rfl)
    · exact eachS_pt hs hw o v a0 a1 n (by simpa [hw] using hg)
  · rename_i w a0 a1 o v y
    simp only [Option.some.injEq, Prod.mk.injEq] at hd
    obtain ⟨hg, rfl⟩ := hd
    cases hw : okW w
    · rw [each_no hw]
      exact each_bad hw a0 a1 _ (by kernel_rfl)
    · exact eachT_pt ht hw o v a0 a1 y (by simpa [hw] using hg)
  · cases hd
end Go.L07

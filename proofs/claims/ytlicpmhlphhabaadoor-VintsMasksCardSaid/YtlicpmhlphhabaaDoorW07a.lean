/-
  Part of the proof; what its functions and lemmas say stands in the text.
-/
import Derived.Test.YtlicpmhlphhabaaDoorV07C
import Derived.Test.YtlicpmhlphhabaaDoorS07D
set_option linter.unusedSimpArgs false
set_option linter.unusedVariables false
/-!
Vectors of whole numbers: what is made of each lane.
-/
namespace Go.L07
open Go.Ev Go.Proofs Go.RowKit Go.Wh

/-- Over whatever functions. -/
abbrev B1 := BitVec 8 → Int → BitVec 64 → BitVec 64
abbrev E1 := BitVec 8 → Int → BitVec 64 → Int
abbrev B2 := BitVec 8 → Int → BitVec 64 → BitVec 64 → BitVec 64
abbrev E2 := BitVec 8 → Int → BitVec 64 → BitVec 64 → Int
abbrev C2 := BitVec 8 → Int → BitVec 64 → BitVec 64 → Bool
noncomputable def ThanH (C : C2) (E : E2) : Ev.Spec := joined fun | [.u8 o, .i .i64 w, .u64 a, .u64 b] => some (.tup [.bool (C o w a b), .i .i64 (E o w a b)]) | _ => none
noncomputable def clo2G (N : B2) (R : E2) : Ev.Spec := guarded fun | [.u64 x, .i .i64 i, .ref [.u8 o], .ref [.i .i64 w], .ref [.sl64 y]] => some (decide (0 ≤ i ∧ i < y.length), .tup [.u64 (N o w x (y.getD i.toNat 0#64)), .i .i64 (R o w x (y.getD i.toNat 0#64))]) | _ => none
noncomputable def clo1G (U : B1) (Q : E1) : Ev.Spec := joined fun | [.u64 x, .i .i64 _, .ref [.u8 o], .ref [.i .i64 w]] => some (.tup [.u64 (U o w x), .i .i64 (Q o w x)]) | _ => none
noncomputable def cloSG (N : B2) (R : E2) : Ev.Spec := guarded fun | [.u64 x, .i .i64 _, .ref [.u8 o], .ref [.i .i64 w], .ref [.u64 n]] => some (okW w, .tup [.u64 (N o w x (n % BitVec.ofInt 64 w)), .i .i64 (R o w x (n % BitVec.ofInt 64 w))]) | _ => none
def thV (C : C2) (E : E2) (o : BitVec 8) (w : Int) (a b : BitVec 64) : BitVec 64 := if (E o w a b == 0 && C o w a b) = true then maskF w else 0#64
noncomputable def cloTG (C : C2) (E : E2) : Ev.Spec := guarded fun | [.u64 x, .i .i64 i, .ref [.u8 o], .ref [.i .i64 w], .ref [.sl64 y]] => some (decide (0 ≤ i ∧ i < y.length), .tup [.u64 (thV C E o w x (y.getD i.toNat 0#64)), .i .i64 (E o w x (y.getD i.toNat 0#64))]) | _ => none
theorem clo2 {N : B2} {R : E2} (h : Snd 18 (TwoG N R)) : Snd 43 (clo2G N R) := by
  refine Sound.guard (execFn_sound (ann := fun _ => []) (TableOK.cons h TableOK.nil) mixed Tryd.func43 (by kernel_rfl) 50) fun ds d hd => ?_
  split at hd
  · rename_i x i o w y
    simp only [Option.some.injEq, Prod.mk.injEq, decide_eq_true_eq] at hd
    obtain ⟨⟨h0, h1⟩, rfl⟩ := hd
    have nf : ex [(18, TwoG N R)] (fun _ => []) Tryd.f43 [.u64 x, .i .i64 i, .ref [.u8 o], .ref [.i .i64 w], .ref [.sl64 y]] some =
      if 0 ≤ i ∧ i < (y.length : Int) then if 0 + i.toNat * 1 < y.length then some (.tup [.u64 (N o w x (y.getD (0 + i.toNat * 1) 0#64)), .i .i64 (R o w x (y.getD (0 + i.toNat * 1) 0#64))]) else none else none := by kernel_rfl
    refine nf.trans ?_
    have e : 0 + i.toNat * 1 = i.toNat := by omega
    rw [if_pos ⟨h0, h1⟩, if_pos (by omega), e]
  · cases hd
theorem clo1 {U : B1} {Q : E1} (h : Snd 59 (OneH U Q)) : Snd 58 (clo1G U Q) := by
  refine Sound.join (execFn_sound (ann := fun _ => []) (TableOK.cons h TableOK.nil) mixed Tryd.func58 (by kernel_rfl) 50) fun ds d hd => ?_
  split at hd
  · cases hd; kernel_rfl
  · cases hd
theorem cloS {N : B2} {R : E2} (h : Snd 18 (TwoG N R)) : Snd 61 (cloSG N R) := by
  refine Sound.guard (execFn_sound (ann := fun _ => []) (TableOK.cons h TableOK.nil) mixed Tryd.func61 (by kernel_rfl) 50) fun ds d hd => ?_
  split at hd
  · rename_i x i o w n
    simp only [Option.some.injEq, Prod.mk.injEq] at hd
    obtain ⟨h0, rfl⟩ := hd
    have nf : ex [(18, TwoG N R)] (fun _ => []) Tryd.f61 [.u64 x, .i .i64 i, .ref [.u8 o], .ref [.i .i64 w], .ref [.u64 n]] some =
      if BitVec.ofInt 64 w = 0#64 then none else some (.tup [.u64 (N o w x (n % BitVec.ofInt 64 w)), .i .i64 (R o w x (n % BitVec.ofInt 64 w))]) := by kernel_rfl
    refine nf.trans (if_neg ?_)
    rcases okW_cases h0 with rfl | rfl | rfl | rfl <;> decide
  · cases hd
theorem cloT {C : C2} {E : E2} (h : Snd 66 (ThanH C E)) : Snd 65 (cloTG C E) := by
  refine Sound.guard (execFn_sound (ann := fun _ => []) (TableOK.cons h TableOK.nil) mixed Tryd.func65 (by kernel_rfl) 50) fun ds d hd => ?_
  split at hd
  · rename_i x i o w y
    simp only [Option.some.injEq, Prod.mk.injEq, decide_eq_true_eq] at hd
    obtain ⟨⟨h0, h1⟩, rfl⟩ := hd
    have nf : ex [(66, ThanH C E)] (fun _ => []) Tryd.f65 [.u64 x, .i .i64 i, .ref [.u8 o], .ref [.i .i64 w], .ref [.sl64 y]] some =
      if 0 ≤ i ∧ i < (y.length : Int) then if 0 + i.toNat * 1 < y.length then
        if (!(E o w x (y.getD (0 + i.toNat * 1) 0#64) == 0)) = false then if (!C o w x (y.getD (0 + i.toNat * 1) 0#64)) = true then some (.tup [.u64 0#64, .i .i64 (E o w x (y.getD (0 + i.toNat * 1) 0#64))]) else some (.tup [.u64 (maskF w), .i .i64 0])
        else some (.tup [.u64 0#64, .i .i64 (E o w x (y.getD (0 + i.toNat * 1) 0#64))]) else none else none := by kernel_rfl
    refine nf.trans ?_
    have e : 0 + i.toNat * 1 = i.toNat := by omega
    rw [if_pos ⟨h0, h1⟩, if_pos (by omega), e]
    unfold thV
    generalize hE : E o w x (y.getD i.toNat 0#64) = z
    generalize C o w x (y.getD i.toNat 0#64) = c
    by_cases hz : z = 0
    · subst hz
      cases c <;> rfl
    · have e1 : (z == 0) = false := by simp [hz]
      simp only [e1, Bool.false_and, Bool.not_false, Bool.true_eq_false, Bool.false_eq_true, if_false]
  · cases hd

/-! each -/
def eachB (ok : Bool) (w : Int) (l : List (BitVec 64)) : D := .tup [vec (ifF ok (vecF w l).1) (ifF ok (vecF w l).2), .i .i64 (errF ok)]
def okEach (w : Int) (rs : List Int) (l : List (BitVec 64)) : Bool := rs.all (fun r => r == 0) && okOf w l
def eachV (w : Int) (rs : List Int) (l : List (BitVec 64)) : D := eachB (okEach w rs l) w l
def chainR : List Int → Option D → Option D → Option D
  | [], _, a => a
  | r :: l, e, a => if (!(r == 0)) = true then e else chainR l e a
theorem chainR_eq : ∀ (l : List Int) (e a : Option D), chainR l e a = if l.all (fun r => r == 0) = true then a else e
  | [], _, _ => rfl
  | r :: l, e, a => by
    simp only [chainR, List.all_cons, chainR_eq l]
    have key : ∀ b c : Bool, (if (!b) = true then e else if c = true then a else e) = if (b && c) = true then a else e := by
      intro b c; cases b <;> cases c <;> rfl
    exact key _ _
theorem each_fin (w : Int) (rs : List Int) (l : List (BitVec 64)) : chainR rs (some ofErr) (some (eachB (okOf w l) w l)) = some (eachV w rs l) := by
  rw [chainR_eq]
  unfold eachV okEach
  cases rs.all fun r => r == 0
  · rfl
  · rfl
theorem each_no {w : Int} (h : okW w = false) (rs : List Int) (l : List (BitVec 64)) : eachV w rs l = ofErr := by
  have e : okEach w rs l = false := by simp [okEach, okOf, h]
  unfold eachV
  rw [e]; rfl
def annE : Nat → List Nat := fun | 5 => [0, 2, 6, 8, 24, 25, 26] | _ => []
theorem each2_8 (N : B2) (R : E2) (o : BitVec 8) (v : Int) (a0 a1 : BitVec 64) (y0 y1 y2 y3 y4 y5 y6 y7 y8 y9 y10 y11 y12 y13 y14 y15 : BitVec 64) : ex [(41, left allF), (43, clo2G N R), (63, OfS)] annE Tryd.f42 [.i .i64 8, vec a0 a1, .clo 43 [.ref [.u8 o], .ref [.i .i64 v], .ref [.sl64 [y0, y1, y2, y3, y4, y5, y6, y7, y8, y9, y10, y11, y12, y13, y14, y15]]]] some =
  chainR (List.zipWith (R o v) (listF a0 a1 8) [y0, y1, y2, y3, y4, y5, y6, y7, y8, y9, y10, y11, y12, y13, y14, y15]) (some ofErr) (some (eachB (okOf 8 (List.zipWith (N o v) (listF a0 a1 8) [y0, y1, y2, y3, y4, y5, y6, y7, y8, y9, y10, y11, y12, y13, y14, y15])) 8 (List.zipWith (N o v) (listF a0 a1 8) [y0, y1, y2, y3, y4, y5, y6, y7, y8, y9, y10, y11, y12, y13, y14, y15]))) := by kernel_rfl
theorem each2_16 (N : B2) (R : E2) (o : BitVec 8) (v : Int) (a0 a1 : BitVec 64) (y0 y1 y2 y3 y4 y5 y6 y7 : BitVec 64) : ex [(41, left allF), (43, clo2G N R), (63, OfS)] annE Tryd.f42 [.i .i64 16, vec a0 a1, .clo 43 [.ref [.u8 o], .ref [.i .i64 v], .ref [.sl64 [y0, y1, y2, y3, y4, y5, y6, y7]]]] some =
  chainR (List.zipWith (R o v) (listF a0 a1 16) [y0, y1, y2, y3, y4, y5, y6, y7]) (some ofErr) (some (eachB (okOf 16 (List.zipWith (N o v) (listF a0 a1 16) [y0, y1, y2, y3, y4, y5, y6, y7])) 16 (List.zipWith (N o v) (listF a0 a1 16) [y0, y1, y2, y3, y4, y5, y6, y7]))) := by kernel_rfl
theorem each2_32 (N : B2) (R : E2) (o : BitVec 8) (v : Int) (a0 a1 : BitVec 64) (y0 y1 y2 y3 : BitVec 64) : ex [(41, left allF), (43, clo2G N R), (63, OfS)] annE Tryd.f42 [.i .i64 32, vec a0 a1, .clo 43 [.ref [.u8 o], .ref [.i .i64 v], .ref [.sl64 [y0, y1, y2, y3]]]] some =
  chainR (List.zipWith (R o v) (listF a0 a1 32) [y0, y1, y2, y3]) (some ofErr) (some (eachB (okOf 32 (List.zipWith (N o v) (listF a0 a1 32) [y0, y1, y2, y3])) 32 (List.zipWith (N o v) (listF a0 a1 32) [y0, y1, y2, y3]))) := by kernel_rfl
theorem each2_64 (N : B2) (R : E2) (o : BitVec 8) (v : Int) (a0 a1 : BitVec 64) (y0 y1 : BitVec 64) : ex [(41, left allF), (43, clo2G N R), (63, OfS)] annE Tryd.f42 [.i .i64 64, vec a0 a1, .clo 43 [.ref [.u8 o], .ref [.i .i64 v], .ref [.sl64 [y0, y1]]]] some =
  chainR (List.zipWith (R o v) (listF a0 a1 64) [y0, y1]) (some ofErr) (some (eachB (okOf 64 (List.zipWith (N o v) (listF a0 a1 64) [y0, y1])) 64 (List.zipWith (N o v) (listF a0 a1 64) [y0, y1]))) := by kernel_rfl
theorem each1_8 (U : B1) (Q : E1) (o : BitVec 8) (v : Int) (a0 a1 : BitVec 64) : ex [(41, left allF), (58, clo1G U Q), (63, OfS)] annE Tryd.f42 [.i .i64 8, vec a0 a1, .clo 58 [.ref [.u8 o], .ref [.i .i64 v]]] some =
  chainR ((listF a0 a1 8).map (Q o v)) (some ofErr) (some (eachB (okOf 8 ((listF a0 a1 8).map (U o v))) 8 ((listF a0 a1 8).map (U o v)))) := by kernel_rfl
theorem each1_16 (U : B1) (Q : E1) (o : BitVec 8) (v : Int) (a0 a1 : BitVec 64) : ex [(41, left allF), (58, clo1G U Q), (63, OfS)] annE Tryd.f42 [.i .i64 16, vec a0 a1, .clo 58 [.ref [.u8 o], .ref [.i .i64 v]]] some =
  chainR ((listF a0 a1 16).map (Q o v)) (some ofErr) (some (eachB (okOf 16 ((listF a0 a1 16).map (U o v))) 16 ((listF a0 a1 16).map (U o v)))) := by kernel_rfl
theorem each1_32 (U : B1) (Q : E1) (o : BitVec 8) (v : Int) (a0 a1 : BitVec 64) : ex [(41, left allF), (58, clo1G U Q), (63, OfS)] annE Tryd.f42 [.i .i64 32, vec a0 a1, .clo 58 [.ref [.u8 o], .ref [.i .i64 v]]] some =
  chainR ((listF a0 a1 32).map (Q o v)) (some ofErr) (some (eachB (okOf 32 ((listF a0 a1 32).map (U o v))) 32 ((listF a0 a1 32).map (U o v)))) := by kernel_rfl
theorem each1_64 (U : B1) (Q : E1) (o : BitVec 8) (v : Int) (a0 a1 : BitVec 64) : ex [(41, left allF), (58, clo1G U Q), (63, OfS)] annE Tryd.f42 [.i .i64 64, vec a0 a1, .clo 58 [.ref [.u8 o], .ref [.i .i64 v]]] some =
  chainR ((listF a0 a1 64).map (Q o v)) (some ofErr) (some (eachB (okOf 64 ((listF a0 a1 64).map (U o v))) 64 ((listF a0 a1 64).map (U o v)))) := by kernel_rfl
theorem eachS_8 (N : B2) (R : E2) (o : BitVec 8) (a0 a1 : BitVec 64) (n : BitVec 64) (v : Int) (hv : okW v = true) : ex [(41, left allF), (61, cloSG N R), (63, OfS)] annE Tryd.f42 [.i .i64 8, vec a0 a1, .clo 61 [.ref [.u8 o], .ref [.i .i64 v], .ref [.u64 n]]] some =
  chainR ((listF a0 a1 8).map (fun x => R o v x (n % BitVec.ofInt 64 v))) (some ofErr) (some (eachB (okOf 8 ((listF a0 a1 8).map (fun x => N o v x (n % BitVec.ofInt 64 v)))) 8 ((listF a0 a1 8).map (fun x => N o v x (n % BitVec.ofInt 64 v))))) := by
  rcases okW_cases hv with rfl | rfl | rfl | rfl <;> kernel_rfl
theorem eachS_16 (N : B2) (R : E2) (o : BitVec 8) (a0 a1 : BitVec 64) (n : BitVec 64) (v : Int) (hv : okW v = true) : ex [(41, left allF), (61, cloSG N R), (63, OfS)] annE Tryd.f42 [.i .i64 16, vec a0 a1, .clo 61 [.ref [.u8 o], .ref [.i .i64 v], .ref [.u64 n]]] some =
  chainR ((listF a0 a1 16).map (fun x => R o v x (n % BitVec.ofInt 64 v))) (some ofErr) (some (eachB (okOf 16 ((listF a0 a1 16).map (fun x => N o v x (n % BitVec.ofInt 64 v)))) 16 ((listF a0 a1 16).map (fun x => N o v x (n % BitVec.ofInt 64 v))))) := by
  rcases okW_cases hv with rfl | rfl | rfl | rfl <;> kernel_rfl
theorem eachS_32 (N : B2) (R : E2) (o : BitVec 8) (a0 a1 : BitVec 64) (n : BitVec 64) (v : Int) (hv : okW v = true) : ex [(41, left allF), (61, cloSG N R), (63, OfS)] annE Tryd.f42 [.i .i64 32, vec a0 a1, .clo 61 [.ref [.u8 o], .ref [.i .i64 v], .ref [.u64 n]]] some =
  chainR ((listF a0 a1 32).map (fun x => R o v x (n % BitVec.ofInt 64 v))) (some ofErr) (some (eachB (okOf 32 ((listF a0 a1 32).map (fun x => N o v x (n % BitVec.ofInt 64 v)))) 32 ((listF a0 a1 32).map (fun x => N o v x (n % BitVec.ofInt 64 v))))) := by
  rcases okW_cases hv with rfl | rfl | rfl | rfl <;> kernel_rfl
theorem eachS_64 (N : B2) (R : E2) (o : BitVec 8) (a0 a1 : BitVec 64) (n : BitVec 64) (v : Int) (hv : okW v = true) : ex [(41, left allF), (61, cloSG N R), (63, OfS)] annE Tryd.f42 [.i .i64 64, vec a0 a1, .clo 61 [.ref [.u8 o], .ref [.i .i64 v], .ref [.u64 n]]] some =
  chainR ((listF a0 a1 64).map (fun x => R o v x (n % BitVec.ofInt 64 v))) (some ofErr) (some (eachB (okOf 64 ((listF a0 a1 64).map (fun x => N o v x (n % BitVec.ofInt 64 v)))) 64 ((listF a0 a1 64).map (fun x => N o v x (n % BitVec.ofInt 64 v))))) := by
  rcases okW_cases hv with rfl | rfl | rfl | rfl <;> kernel_rfl
theorem eachT_8 (C : C2) (E : E2) (o : BitVec 8) (v : Int) (a0 a1 : BitVec 64) (y0 y1 y2 y3 y4 y5 y6 y7 y8 y9 y10 y11 y12 y13 y14 y15 : BitVec 64) : ex [(41, left allF), (65, cloTG C E), (63, OfS)] annE Tryd.f42 [.i .i64 8, vec a0 a1, .clo 65 [.ref [.u8 o], .ref [.i .i64 v], .ref [.sl64 [y0, y1, y2, y3, y4, y5, y6, y7, y8, y9, y10, y11, y12, y13, y14, y15]]]] some =
  chainR (List.zipWith (E o v) (listF a0 a1 8) [y0, y1, y2, y3, y4, y5, y6, y7, y8, y9, y10, y11, y12, y13, y14, y15]) (some ofErr) (some (eachB (okOf 8 (List.zipWith (thV C E o v) (listF a0 a1 8) [y0, y1, y2, y3, y4, y5, y6, y7, y8, y9, y10, y11, y12, y13, y14, y15])) 8 (List.zipWith (thV C E o v) (listF a0 a1 8) [y0, y1, y2, y3, y4, y5, y6, y7, y8, y9, y10, y11, y12, y13, y14, y15]))) := by kernel_rfl
theorem eachT_16 (C : C2) (E : E2) (o : BitVec 8) (v : Int) (a0 a1 : BitVec 64) (y0 y1 y2 y3 y4 y5 y6 y7 : BitVec 64) : ex [(41, left allF), (65, cloTG C E), (63, OfS)] annE Tryd.f42 [.i .i64 16, vec a0 a1, .clo 65 [.ref [.u8 o], .ref [.i .i64 v], .ref [.sl64 [y0, y1, y2, y3, y4, y5, y6, y7]]]] some =
  chainR (List.zipWith (E o v) (listF a0 a1 16) [y0, y1, y2, y3, y4, y5, y6, y7]) (some ofErr) (some (eachB (okOf 16 (List.zipWith (thV C E o v) (listF a0 a1 16) [y0, y1, y2, y3, y4, y5, y6, y7])) 16 (List.zipWith (thV C E o v) (listF a0 a1 16) [y0, y1, y2, y3, y4, y5, y6, y7]))) := by kernel_rfl
theorem eachT_32 (C : C2) (E : E2) (o : BitVec 8) (v : Int) (a0 a1 : BitVec 64) (y0 y1 y2 y3 : BitVec 64) : ex [(41, left allF), (65, cloTG C E), (63, OfS)] annE Tryd.f42 [.i .i64 32, vec a0 a1, .clo 65 [.ref [.u8 o], .ref [.i .i64 v], .ref [.sl64 [y0, y1, y2, y3]]]] some =
  chainR (List.zipWith (E o v) (listF a0 a1 32) [y0, y1, y2, y3]) (some ofErr) (some (eachB (okOf 32 (List.zipWith (thV C E o v) (listF a0 a1 32) [y0, y1, y2, y3])) 32 (List.zipWith (thV C E o v) (listF a0 a1 32) [y0, y1, y2, y3]))) := by kernel_rfl
theorem eachT_64 (C : C2) (E : E2) (o : BitVec 8) (v : Int) (a0 a1 : BitVec 64) (y0 y1 : BitVec 64) : ex [(41, left allF), (65, cloTG C E), (63, OfS)] annE Tryd.f42 [.i .i64 64, vec a0 a1, .clo 65 [.ref [.u8 o], .ref [.i .i64 v], .ref [.sl64 [y0, y1]]]] some =
  chainR (List.zipWith (E o v) (listF a0 a1 64) [y0, y1]) (some ofErr) (some (eachB (okOf 64 (List.zipWith (thV C E o v) (listF a0 a1 64) [y0, y1])) 64 (List.zipWith (thV C E o v) (listF a0 a1 64) [y0, y1]))) := by kernel_rfl
end Go.L07

/-
  PROVED HERE: the tied card of VintsDot, for every input: the dot is, lane by lane, the sum of the widened products of the lanes 2 i and 2 i + 1. No conditions beyond the card's own.
-/
import Derived.Test.YtlicpmhlphhabaaDoorW07i
import Derived.SevenTiedAt
set_option linter.unusedSimpArgs false
set_option linter.unusedVariables false
namespace Go.L07
open Go.Ev Go.Proofs Go.RowKit Go.Wh

def chainT : List Bool → Option D
  | [] => some (.bool true)
  | b :: l => if b = true then chainT l else some (.bool false)
theorem chainT_all : ∀ {l : List Bool}, (∀ b ∈ l, b = true) → chainT l = some (.bool true)
  | [], _ => rfl
  | b :: l, h => by
    simp only [chainT, h b List.mem_cons_self, if_true]
    exact chainT_all fun c hc => h c (List.mem_cons_of_mem _ hc)

theorem t_wid : Snd 16 (widG widF) := by
  refine Sound.join (execFn_sound (ann := fun _ => []) TableOK.nil mixed Tryd.func16 (by kernel_rfl) 50) fun ds d h => ?_
  split at h
  · cases h; kernel_rfl
  · cases h
abbrev G2x := BitVec 64 → BitVec 64 → Int → Int → BitVec 64
abbrev H2x := Int → Int → Int
noncomputable def GG (U : G2x) (H : H2x) : Ev.Spec := joined fun | [.agg [.u64 x, .u64 y], .i .i64 t, .i .i64 i] => some (.tup [.u64 (U x y t i), .i .i64 (H t i)]) | _ => none
abbrev gU : G2x := fun x y t i => ifF (okI t i) (getF x y t i)
theorem g17 : Snd 17 (GG gU (fun t i => errF (okI t i))) := Get13
abbrev oP : B2x := fun o w a0 a1 b0 b1 => ifF (okT twoN twoR o w a0 a1 b0 b1) (vecF w (lT twoN o w a0 a1 b0 b1)).1
abbrev oQ : B2x := fun o w a0 a1 b0 b1 => ifF (okT twoN twoR o w a0 a1 b0 b1) (vecF w (lT twoN o w a0 a1 b0 b1)).2
abbrev oE : E2x := fun o w a0 a1 b0 b1 => errF (okT twoN twoR o w a0 a1 b0 b1)
theorem g13' : Snd 13 (V2G oP oQ oE) := t_V13
theorem chainT_if {b : Bool} {l : List Bool} (h : b = true) : chainT (b :: l) = chainT l := by simp only [chainT, h, if_true]
theorem get_list {x y : BitVec 64} {w i : Int} (hi : okI w i = true) : getF x y w i = (listF x y w).getD i.toNat 0#64 := by
  simp only [okI, Bool.and_eq_true, decide_eq_true_eq] at hi
  obtain ⟨⟨hw, h0⟩, h1⟩ := hi
  have hp := okW_pos hw
  rw [listF_get (by omega), Int.toNat_of_nonneg h0]

abbrev T2x := Int → Bool → Bool → BitVec 64 → BitVec 64 → BitVec 64 → BitVec 64 → BitVec 64
abbrev D2x := BitVec 64 → BitVec 64 → BitVec 64 → BitVec 64 → BitVec 64
abbrev F0x := Int → Int
noncomputable def TG (P Q : T2x) (E : F0x) : Ev.Spec := joined fun | [.i .i64 w, .bool s, .bool h, .agg [.u64 a0, .u64 a1], .agg [.u64 b0, .u64 b1]] => some (.tup [vec (P w s h a0 a1 b0 b1) (Q w s h a0 a1 b0 b1), .i .i64 (E w)]) | _ => none
noncomputable def DG (P Q : D2x) : Ev.Spec := joined fun | [.agg [.u64 a0, .u64 a1], .agg [.u64 b0, .u64 b1]] => some (.tup [vec (P a0 a1 b0 b1) (Q a0 a1 b0 b1), .i .i64 0]) | _ => none
abbrev tP : T2x := fun w s h a0 a1 b0 b1 => ifF (inW w) (vecF (2 * w) (timL extN w s h a0 a1 b0 b1)).1
abbrev tQ : T2x := fun w s h a0 a1 b0 b1 => ifF (inW w) (vecF (2 * w) (timL extN w s h a0 a1 b0 b1)).2
abbrev dP : D2x := fun a0 a1 b0 b1 => (vecF 32 (dotL a0 a1 b0 b1)).1
abbrev dQ : D2x := fun a0 a1 b0 b1 => (vecF 32 (dotL a0 a1 b0 b1)).2
theorem g36 : Snd 36 (TG tP tQ (fun w => errF (inW w))) := t_vTim
theorem g37 : Snd 37 (DG dP dQ) := t_vDot
def ann11 : Nat → List Nat := fun | 7 => [5, 7, 9, 11] | _ => []
def lan4 (N : B2) (U : G2x) (d0 d1 l0 l1 h0 h1 : BitVec 64) : Option D :=
  if (!(U d0 d1 32 0 == N 1#8 32 (U l0 l1 32 0) (U l0 l1 32 1))) = true then some (.bool false) else
  if (!(U d0 d1 32 1 == N 1#8 32 (U l0 l1 32 2) (U l0 l1 32 3))) = true then some (.bool false) else
  if (!(U d0 d1 32 2 == N 1#8 32 (U h0 h1 32 0) (U h0 h1 32 1))) = true then some (.bool false) else
  if (!(U d0 d1 32 3 == N 1#8 32 (U h0 h1 32 2) (U h0 h1 32 3))) = true then some (.bool false) else some (.bool true)
theorem nf11 (P Q : T2x) (E : F0x) (P3 Q3 : D2x) (U : G2x) (H : H2x) (N : B2) (R : E2) (a0 a1 b0 b1 : BitVec 64) : ex [(36, TG P Q E), (37, DG P3 Q3), (17, GG U H), (18, TwoG N R), (15, worksS)] ann11 Tryd.f11 [vec a0 a1, vec b0 b1] some =
  if (!(E 16 == 0)) = false then if (!(E 16 == 0)) = false then lan4 N U (P3 a0 a1 b0 b1) (Q3 a0 a1 b0 b1) (P 16 true false a0 a1 b0 b1) (Q 16 true false a0 a1 b0 b1) (P 16 true true a0 a1 b0 b1) (Q 16 true true a0 a1 b0 b1)
    else some (D.bool false) else some (D.bool false) := by kernel_rfl
theorem ext_int {x : BitVec 64} (h : fitF 16 x = true) : extN 16 32 true x = BitVec.ofInt 64 (sgnF 16 x) &&& maskF 32 := by
  have : okE 16 32 x = true := by simp [okE, h, show okW 32 = true by decide]
  unfold extN extF
  rw [this]; rfl
theorem dot_sum {x y u v : BitVec 64} (hx : fitF 16 x = true) (hy : fitF 16 y = true) (hu : fitF 16 u = true) (hv : fitF 16 v = true) :
    dotR x y u v = twoN 1#8 32 (mulM 32 (extN 16 32 true x) (extN 16 32 true u)) (mulM 32 (extN 16 32 true y) (extN 16 32 true v)) := by
  unfold mulM
  rw [two_add (fit_and (t := 32) (by decide) _) (fit_and (t := 32) (by decide) _)]
  obtain ⟨_, x1, x2⟩ := s16 hx
  obtain ⟨_, y1, y2⟩ := s16 hy
  obtain ⟨_, u1, u2⟩ := s16 hu
  obtain ⟨_, v1, v2⟩ := s16 hv
  obtain ⟨p1, p2⟩ := mul16 x1 x2 u1 u2
  obtain ⟨q1, q2⟩ := mul16 y1 y2 v1 v2
  unfold dotR
  rw [ext_int hx, ext_int hy, ext_int hu, ext_int hv]
  rw [wrap_in (n := sgnF 16 x * sgnF 16 u) (by omega) (by omega), wrap_in (n := sgnF 16 y * sgnF 16 v) (by omega) (by omega), wrap_in (by omega) (by omega)]
  have m32 : okW 32 = true := by decide
  have prod : ∀ a b : Int, (((BitVec.ofInt 64 a &&& maskF 32) * (BitVec.ofInt 64 b &&& maskF 32) &&& maskF 32).toNat : Int) = (a * b) % 4294967296 := by
    intro a b
    rw [and_nat m32, BitVec.toNat_mul]
    have ea := num_nat m32 a
    have eb := num_nat m32 b
    rw [pw32] at *
    have e : (((BitVec.ofInt 64 a &&& maskF 32).toNat * (BitVec.ofInt 64 b &&& maskF 32).toNat % 2 ^ 64 : Nat) : Int) % 4294967296 = ((BitVec.ofInt 64 a &&& maskF 32).toNat : Int) * ((BitVec.ofInt 64 b &&& maskF 32).toNat : Int) % 4294967296 := by
      rw [← Int.natCast_mul]; omega
    rw [e, ea, eb, ← Int.mul_emod]
  refine eq_nat ?_
  rw [num_nat m32, and_nat m32, BitVec.toNat_add]
  have e1 := prod (sgnF 16 x) (sgnF 16 u)
  have e2 := prod (sgnF 16 y) (sgnF 16 v)
  rw [pw32]
  generalize ((BitVec.ofInt 64 (sgnF 16 x) &&& maskF 32) * (BitVec.ofInt 64 (sgnF 16 u) &&& maskF 32) &&& maskF 32).toNat = m at *
  generalize ((BitVec.ofInt 64 (sgnF 16 y) &&& maskF 32) * (BitVec.ofInt 64 (sgnF 16 v) &&& maskF 32) &&& maskF 32).toNat = k at *
  generalize sgnF 16 x * sgnF 16 u = p at *
  generalize sgnF 16 y * sgnF 16 v = q at *
  omega
theorem lan4_ok {N : B2} {U : G2x} {d0 d1 l0 l1 h0 h1 : BitVec 64} (e0 : U d0 d1 32 0 = N 1#8 32 (U l0 l1 32 0) (U l0 l1 32 1)) (e1 : U d0 d1 32 1 = N 1#8 32 (U l0 l1 32 2) (U l0 l1 32 3)) (e2 : U d0 d1 32 2 = N 1#8 32 (U h0 h1 32 0) (U h0 h1 32 1)) (e3 : U d0 d1 32 3 = N 1#8 32 (U h0 h1 32 2) (U h0 h1 32 3)) : lan4 N U d0 d1 l0 l1 h0 h1 = some (.bool true) := by
  unfold lan4
  simp [e0, e1, e2, e3]
theorem len8' {l : List (BitVec 64)} (h : l.length = 8) : ∃ y0 y1 y2 y3 y4 y5 y6 y7, l = [y0, y1, y2, y3, y4, y5, y6, y7] := by
  match l, h with
  | [y0, y1, y2, y3, y4, y5, y6, y7], _ => exact ⟨_, _, _, _, _, _, _, _, rfl⟩
theorem k32 {j : Int} (h0 : 0 ≤ j) (h1 : j < 4) : okI 32 j = true := by
  have : (128 : Int) / 32 = 4 := by decide
  simp only [okI, this, Bool.and_eq_true, decide_eq_true_eq]
  exact ⟨⟨by decide, h0⟩, h1⟩
theorem gD_eq (a0 a1 b0 b1 : BitVec 64) {j : Int} (h0 : 0 ≤ j) (h1 : j < 4) : gU (dP a0 a1 b0 b1) (dQ a0 a1 b0 b1) 32 j = (dotL a0 a1 b0 b1).getD j.toNat 0#64 := by
  have h := list_vecF (okOf_dot a0 a1 b0 b1)
  revert h
  unfold gU dP dQ
  generalize dotL a0 a1 b0 b1 = l
  intro h
  simp only [k32 h0 h1, ifF, if_true, get_list (k32 h0 h1), h]
theorem gT_eq (a0 a1 b0 b1 : BitVec 64) (hi : Bool) {j : Int} (h0 : 0 ≤ j) (h1 : j < 4) : gU (tP 16 true hi a0 a1 b0 b1) (tQ 16 true hi a0 a1 b0 b1) 32 j = (timL extN 16 true hi a0 a1 b0 b1).getD j.toNat 0#64 := by
  have hW : inW 16 = true := by decide
  have h : listF (vecF (2 * 16) (timL extN 16 true hi a0 a1 b0 b1)).1 (vecF (2 * 16) (timL extN 16 true hi a0 a1 b0 b1)).2 32 = timL extN 16 true hi a0 a1 b0 b1 := list_vecF (okOf_tim hW extN true hi a0 a1 b0 b1)
  revert h
  unfold gU tP tQ
  generalize timL extN 16 true hi a0 a1 b0 b1 = l
  intro h
  simp only [k32 h0 h1, hW, ifF, if_true, get_list (k32 h0 h1), h]
theorem lans (f : BitVec 64 → BitVec 64) (m : BitVec 64 → BitVec 64 → BitVec 64) (r : BitVec 64 → BitVec 64 → BitVec 64 → BitVec 64 → BitVec 64) (t : BitVec 64 → BitVec 64 → BitVec 64) (x0 x1 x2 x3 x4 x5 x6 x7 y0 y1 y2 y3 y4 y5 y6 y7 : BitVec 64) :
    ((quadL r [x0, x1, x2, x3, x4, x5, x6, x7] [y0, y1, y2, y3, y4, y5, y6, y7]).getD (0 : Int).toNat 0#64 = t ((List.zipWith m (List.map f (if false = true then List.drop (64 / 16 : Int).toNat [x0, x1, x2, x3, x4, x5, x6, x7] else List.take (64 / 16 : Int).toNat [x0, x1, x2, x3, x4, x5, x6, x7])) (List.map f (if false = true then List.drop (64 / 16 : Int).toNat [y0, y1, y2, y3, y4, y5, y6, y7] else List.take (64 / 16 : Int).toNat [y0, y1, y2, y3, y4, y5, y6, y7]))).getD (0 : Int).toNat 0#64) ((List.zipWith m (List.map f (if false = true then List.drop (64 / 16 : Int).toNat [x0, x1, x2, x3, x4, x5, x6, x7] else List.take (64 / 16 : Int).toNat [x0, x1, x2, x3, x4, x5, x6, x7])) (List.map f (if false = true then List.drop (64 / 16 : Int).toNat [y0, y1, y2, y3, y4, y5, y6, y7] else List.take (64 / 16 : Int).toNat [y0, y1, y2, y3, y4, y5, y6, y7]))).getD (1 : Int).toNat 0#64) ↔ r x0 x1 y0 y1 = t (m (f x0) (f y0)) (m (f x1) (f y1))) ∧
    ((quadL r [x0, x1, x2, x3, x4, x5, x6, x7] [y0, y1, y2, y3, y4, y5, y6, y7]).getD (1 : Int).toNat 0#64 = t ((List.zipWith m (List.map f (if false = true then List.drop (64 / 16 : Int).toNat [x0, x1, x2, x3, x4, x5, x6, x7] else List.take (64 / 16 : Int).toNat [x0, x1, x2, x3, x4, x5, x6, x7])) (List.map f (if false = true then List.drop (64 / 16 : Int).toNat [y0, y1, y2, y3, y4, y5, y6, y7] else List.take (64 / 16 : Int).toNat [y0, y1, y2, y3, y4, y5, y6, y7]))).getD (2 : Int).toNat 0#64) ((List.zipWith m (List.map f (if false = true then List.drop (64 / 16 : Int).toNat [x0, x1, x2, x3, x4, x5, x6, x7] else List.take (64 / 16 : Int).toNat [x0, x1, x2, x3, x4, x5, x6, x7])) (List.map f (if false = true then List.drop (64 / 16 : Int).toNat [y0, y1, y2, y3, y4, y5, y6, y7] else List.take (64 / 16 : Int).toNat [y0, y1, y2, y3, y4, y5, y6, y7]))).getD (3 : Int).toNat 0#64) ↔ r x2 x3 y2 y3 = t (m (f x2) (f y2)) (m (f x3) (f y3))) ∧
    ((quadL r [x0, x1, x2, x3, x4, x5, x6, x7] [y0, y1, y2, y3, y4, y5, y6, y7]).getD (2 : Int).toNat 0#64 = t ((List.zipWith m (List.map f (if true = true then List.drop (64 / 16 : Int).toNat [x0, x1, x2, x3, x4, x5, x6, x7] else List.take (64 / 16 : Int).toNat [x0, x1, x2, x3, x4, x5, x6, x7])) (List.map f (if true = true then List.drop (64 / 16 : Int).toNat [y0, y1, y2, y3, y4, y5, y6, y7] else List.take (64 / 16 : Int).toNat [y0, y1, y2, y3, y4, y5, y6, y7]))).getD (0 : Int).toNat 0#64) ((List.zipWith m (List.map f (if true = true then List.drop (64 / 16 : Int).toNat [x0, x1, x2, x3, x4, x5, x6, x7] else List.take (64 / 16 : Int).toNat [x0, x1, x2, x3, x4, x5, x6, x7])) (List.map f (if true = true then List.drop (64 / 16 : Int).toNat [y0, y1, y2, y3, y4, y5, y6, y7] else List.take (64 / 16 : Int).toNat [y0, y1, y2, y3, y4, y5, y6, y7]))).getD (1 : Int).toNat 0#64) ↔ r x4 x5 y4 y5 = t (m (f x4) (f y4)) (m (f x5) (f y5))) ∧
    ((quadL r [x0, x1, x2, x3, x4, x5, x6, x7] [y0, y1, y2, y3, y4, y5, y6, y7]).getD (3 : Int).toNat 0#64 = t ((List.zipWith m (List.map f (if true = true then List.drop (64 / 16 : Int).toNat [x0, x1, x2, x3, x4, x5, x6, x7] else List.take (64 / 16 : Int).toNat [x0, x1, x2, x3, x4, x5, x6, x7])) (List.map f (if true = true then List.drop (64 / 16 : Int).toNat [y0, y1, y2, y3, y4, y5, y6, y7] else List.take (64 / 16 : Int).toNat [y0, y1, y2, y3, y4, y5, y6, y7]))).getD (2 : Int).toNat 0#64) ((List.zipWith m (List.map f (if true = true then List.drop (64 / 16 : Int).toNat [x0, x1, x2, x3, x4, x5, x6, x7] else List.take (64 / 16 : Int).toNat [x0, x1, x2, x3, x4, x5, x6, x7])) (List.map f (if true = true then List.drop (64 / 16 : Int).toNat [y0, y1, y2, y3, y4, y5, y6, y7] else List.take (64 / 16 : Int).toNat [y0, y1, y2, y3, y4, y5, y6, y7]))).getD (3 : Int).toNat 0#64) ↔ r x6 x7 y6 y7 = t (m (f x6) (f y6)) (m (f x7) (f y7))) :=
  ⟨Iff.rfl, Iff.rfl, Iff.rfl, Iff.rfl⟩
theorem dot11 : Snd 11 (trueS fun | [.agg [.u64 _, .u64 _], .agg [.u64 _, .u64 _]] => true | _ => false) := by
  refine Sound.guard (execFn_sound (ann := ann11) (TableOK.cons g36 (TableOK.cons g37 (TableOK.cons g17 (TableOK.cons t_Two (TableOK.cons t_works TableOK.nil))))) mixed Tryd.func11 (by kernel_rfl) 50) fun ds d h => ?_
  simp only [Option.some.injEq, Prod.mk.injEq] at h
  obtain ⟨h, rfl⟩ := h
  split at h
  · rename_i a0 a1 b0 b1
    refine (nf11 tP tQ (fun w => errF (inW w)) dP dQ gU (fun t i => errF (okI t i)) twoN twoR a0 a1 b0 b1).trans ?_
    have hE : errF (inW 16) = 0 := rfl
    rw [hE, if_pos (by decide), if_pos (by decide)]
    have hW : inW 16 = true := rfl
    have fa := list_fit (x := a0) (y := a1) (w := 16) (by decide)
    have fb := list_fit (x := b0) (y := b1) (w := 16) (by decide)
    refine lan4_ok ?_ ?_ ?_ ?_
    all_goals rw [gD_eq _ _ _ _ (by decide) (by decide), gT_eq _ _ _ _ _ (by decide) (by decide), gT_eq _ _ _ _ _ (by decide) (by decide)]
    all_goals unfold dotL timL wideL
    all_goals revert fa fb
    all_goals have la8 : (listF a0 a1 16).length = 8 := listF_length a0 a1 16
    all_goals have lb8 : (listF b0 b1 16).length = 8 := listF_length b0 b1 16
    all_goals revert la8 lb8
    all_goals generalize listF a0 a1 16 = la
    all_goals generalize listF b0 b1 16 = lb
    all_goals intro la8 lb8 fa fb
    all_goals obtain ⟨x0, x1, x2, x3, x4, x5, x6, x7, rfl⟩ := len8' (l := la) la8
    all_goals obtain ⟨y0, y1, y2, y3, y4, y5, y6, y7, rfl⟩ := len8' (l := lb) lb8
    · refine (lans (extN 16 (2 * 16) true) (mulM (2 * 16)) dotR (twoN 1#8 32) x0 x1 x2 x3 x4 x5 x6 x7 y0 y1 y2 y3 y4 y5 y6 y7).1.2 ?_
      exact dot_sum (fa x0 (by simp)) (fa x1 (by simp)) (fb y0 (by simp)) (fb y1 (by simp))
    · refine (lans (extN 16 (2 * 16) true) (mulM (2 * 16)) dotR (twoN 1#8 32) x0 x1 x2 x3 x4 x5 x6 x7 y0 y1 y2 y3 y4 y5 y6 y7).2.1.2 ?_
      exact dot_sum (fa x2 (by simp)) (fa x3 (by simp)) (fb y2 (by simp)) (fb y3 (by simp))
    · refine (lans (extN 16 (2 * 16) true) (mulM (2 * 16)) dotR (twoN 1#8 32) x0 x1 x2 x3 x4 x5 x6 x7 y0 y1 y2 y3 y4 y5 y6 y7).2.2.1.2 ?_
      exact dot_sum (fa x4 (by simp)) (fa x5 (by simp)) (fb y4 (by simp)) (fb y5 (by simp))
    · refine (lans (extN 16 (2 * 16) true) (mulM (2 * 16)) dotR (twoN 1#8 32) x0 x1 x2 x3 x4 x5 x6 x7 y0 y1 y2 y3 y4 y5 y6 y7).2.2.2.2 ?_
      exact dot_sum (fa x6 (by simp)) (fa x7 (by simp)) (fb y6 (by simp)) (fb y7 (by simp))
  · cases h

end Go.L07
namespace Go.Proofs.YtlicpmhlphhabaaDoor.vintsDot
open Go Go.L07 Go.Ev Go.RowKit Go.ChangeShapes Go.WideShapes Go.ChangeAt
set_option maxRecDepth 100000 in
theorem lifted (os : Os) (started : os.Started) (H : Type) (enc : TypeId × Value → H) :
    ReturnsInHanded {} Tryd.checked os 11 .any (fun w args => (Rows.vintsDotSpec.pre enc Tryd.prog Tryd.f11 [] false w args ∧ laidMetH Tryd.prog laid2 w) ∧ sizedMet enc Tryd.prog Tryd.f11 (OpenSpec.ofChange Rows.vintsDotSpec) false w args)
      (Rows.vintsDotSpec.post enc Tryd.prog Tryd.f11 false true false false) := by
  refine returnsInHanded_of_change_and (C := Tryd.checked) (X := fun w _ => laidMetH Tryd.prog laid2 w) (fun _ _ _ hh h => h.of_heap hh) own started (by kernel_rfl) Tryd.func11
    (ChangeSpec.witness_shaped (enc := enc) (C := Tryd.checked) (os := os) (X := fun w _ => laidMetH Tryd.prog laid2 w) false (World.doorLaid Tryd.prog 19 os) #[.agg #[.int .u64 0, .int .u64 0], .agg #[.int .u64 0, .int .u64 0]] 8 rfl (World.shaped_of_RefB (by kernel_rfl) (by kernel_rfl)) (by kernel_rfl) (by kernel_rfl) (by kernel_rfl)
      (door_met os _)) ?_
  intro W base args ds gs before hval0 hW _ hwt hL hsz
  have hval : ∀ (j : Nat) t v, Tryd.f11.params[j]? = some t → args[j]? = some v → Value.okWide Tryd.prog W .any base t v := hval0
  have hW' := hW
  obtain ⟨p, q, hA0, hV, rfl, hfz, hnd⟩ := hW
  have hA : DataW.TrodAll enc Tryd.prog W 0 (fun _ => true) true Tryd.f11.params.toList args.toList ds p := hA0
  rw [Tryd.params11] at hA hval
  obtain ⟨v0, vs0, d0, ds0, p0, q0, hargs, rfl, rfl, h0, r0⟩ := trodAll_cons hA
  obtain ⟨v1, vs1, d1, ds1, p1, q1, rfl, rfl, rfl, h1, r1⟩ := trodAll_cons r0
  obtain ⟨rfl, rfl, rfl⟩ := trodAll_nil r1
  obtain rfl : args = #[v0, v1] := by cases args; simp_all
  obtain ⟨x0, y0, l0⟩ := a_vec (own := none) (hval 0 25 v0 rfl rfl) h0
  obtain ⟨x1, y1, l1⟩ := a_vec (own := none) (hval 1 25 v1 rfl rfl) h1
  refine (call_true dot11 (ds := [vec x0 y0, vec x1 y1]) rfl (glob_of_laid hL) (by simp only [lie]; exact ⟨_, _, rfl, l0, _, _, rfl, l1, rfl⟩) (by kernel_rfl)).mono fun e W' ⟨he, hb⟩ => ?_
  subst he
  exact ⟨_, rfl, post_law hW' hb laidOut (by kernel_rfl) rfl (by kernel_rfl) Tryd.underlying4 rfl⟩

theorem holds : Rows.VintsDotSaid :=
  OpenClaim.holds_of_wide 11 Tryd.f11 rfl rfl rfl rfl rfl rfl rfl ⟨rfl, rfl, rfl, rfl, rfl⟩ rfl rfl rfl rfl rfl (by kernel_rfl) Tryd.func11 (by kernel_rfl)
    (of_decide_eq_true (by kernel_rfl)) (by unfold Func.isWrapper; first | (rw [if_pos (by decide +kernel)]; kernel_rfl) | (rw [if_neg (by decide +kernel)]; exact ⟨rfl, rfl⟩))
    (fun os started H enc _ => lifted os started H enc)
end Go.Proofs.YtlicpmhlphhabaaDoor.vintsDot
namespace Go.Proofs.YtlicpmhlphhabaaDoor
open Go

theorem vintsDotCard_holds : Rows.VintsDotCardSaid :=
  Claim7.holds_tied_plain_at .later [] [.data, .data] true (true, "90bfb9091962d32cfb84b45d5e24cb5b4bf6a9b0a558cfb03f8975f9e19d4995") false
    vintsDot.holds (fun _ h => by cases h) (by kernel_rfl) (fun _ h => by cases h) vintsDot_row_tie rfl ⟨rfl, rfl⟩ (by kernel_rfl) rfl
    (fun f fn hf hfn => by
      obtain rfl : f = 11 := Option.some.inj ((show Tryd.prog.funcNamed "jacquard/jacquardlaw07.VintsDot" = some 11 by kernel_rfl).symm.trans hf) |>.symm
      obtain rfl : fn = Tryd.f11 := (Option.some.inj (Tryd.func11.symm.trans hfn)).symm
      exact ⟨by kernel_rfl, fun j t ht => by
        rw [Tryd.params11] at ht
        have hm : t ∈ [25, 25] := by simpa using Array.mem_of_getElem? ht
        have hall : ([25, 25].all fun u => !Tryd.prog.wantsStandIn u) = true := by kernel_rfl
        exact (show Tryd.prog.wantsStandIn t = false by simpa using List.all_eq_true.1 hall t hm)⟩)
    (by kernel_rfl)
#print axioms vintsDotCard_holds
end Go.Proofs.YtlicpmhlphhabaaDoor

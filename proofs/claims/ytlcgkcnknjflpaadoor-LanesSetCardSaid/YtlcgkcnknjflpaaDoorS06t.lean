/-
  Part of the proof; what its functions and lemmas say stands in the text.
-/
import Derived.Test.YtlcgkcnknjflpaaDoorS06s
set_option linter.unusedSimpArgs false
set_option linter.unusedVariables false
/-!
Chapter 06: LanesSet: its loop.
-/
namespace Go.L06
open Go.Ev Go.Proofs Go.RowKit Go.Rt

noncomputable def c4 : Code := findLoop (loops (Tryd.f4.body.getD .skip)) 7
structure X4 where
  v0 : BitVec 64
  v1 : BitVec 64
  u0 : BitVec 64
  u1 : BitVec 64
  w : Int
  i : Int
  x : BitVec 64
  e : Int
  k : Nat
noncomputable def S4 (y : X4) (k : Int) : St := ⟨mkT 89 [(2, .i .i64 y.i), (3, .u64 y.x), (4, .ptr 0 0), (8, .bool false), (9, .i .i64 y.w), (10, .ptr 1 0), (11, .i .i64 y.e), (12, .i .i64 k)], [some ⟨.agg [.u64 y.v0, .u64 y.v1], true⟩, some ⟨.agg [.u64 y.u0, .u64 y.u1], true⟩]⟩
noncomputable abbrev keep4 : List Nat := [2, 3, 4, 8, 9, 10, 11, 12]
theorem nf4 (y : X4) (k : Int) (K : Ex → St → Option D) : exec Tryd.prog G0 (tabOf [(13, GetS)]) (fun _ => []) (fun _ => none) 50 c4 (S4 y k) (fun e st => K e (canon keep4 st)) =
  if y.w = 0 then none else
  if decide (k < IntKind.i64.wrap (Int.tdiv 128 y.w)) = true then
    if (!(errF (okI y.w k) == 0)) = false then
      if (k == y.i) = true then
        if (!(ifF (okI y.w k) (getF y.u0 y.u1 y.w k) == y.x)) = false then
          if (!(k == y.i)) = true then
            if (!(ifF (okI y.w k) (getF y.u0 y.u1 y.w k) == ifF (okI y.w k) (getF y.v0 y.v1 y.w k))) = true then K .ret (S4 y k) else K .normal (S4 y (IntKind.i64.wrap (k + 1)))
          else K .normal (S4 y (IntKind.i64.wrap (k + 1)))
        else K .ret (S4 y k)
      else
        if (!(k == y.i)) = true then
          if (!(ifF (okI y.w k) (getF y.u0 y.u1 y.w k) == ifF (okI y.w k) (getF y.v0 y.v1 y.w k))) = true then K .ret (S4 y k) else K .normal (S4 y (IntKind.i64.wrap (k + 1)))
        else K .normal (S4 y (IntKind.i64.wrap (k + 1)))
    else K .ret (S4 y k)
  else K (.exit 0) (S4 y k) := by kernel_rfl
def go4 (y : X4) : Bool := decide ((y.k : Int) < 128 / y.w) && (if (y.k : Int) = y.i then getF y.u0 y.u1 y.w y.k == y.x else getF y.u0 y.u1 y.w y.k == getF y.v0 y.v1 y.w y.k)
def next4 (y : X4) : X4 := { y with k := y.k + 1 }
def I4 (y : X4) : Prop := okW y.w = true ∧ y.k ≤ (128 / y.w).toNat
theorem okW_le {w : Int} (h : okW w = true) : 128 / w ≤ 16 := by rcases okW_cases h with rfl | rfl | rfl | rfl <;> decide
theorem body4 (y : X4) (h : I4 y) (K : Ex → St → Option D) : exec Tryd.prog G0 (tabOf [(13, GetS)]) (fun _ => []) (fun _ => none) 50 c4 (S4 y y.k) (fun e st => K e (canon keep4 st)) =
    if go4 y = true then K .normal (S4 (next4 y) (next4 y).k) else if decide ((y.k : Int) < 128 / y.w) = true then K .ret (S4 y y.k) else K (.exit 0) (S4 y y.k) := by
  obtain ⟨hw, hk⟩ := h
  have h16 := okW_le hw
  have hp := okW_pos hw
  rw [nf4 y y.k K, if_neg (okW_ne hw), okW_div hw]
  have hn : S4 y (IntKind.i64.wrap ((y.k : Int) + 1)) = S4 (next4 y) (next4 y).k := by
    rw [wrap_i64 (by omega) (by omega)]
    rfl
  rw [hn]
  unfold go4
  by_cases h1 : (y.k : Int) < 128 / y.w
  · have hok : okI y.w y.k = true := by simp [okI, hw, h1]
    have e0 : (!(errF true == 0)) = false := by decide
    simp only [h1, hok, e0, ifF, decide_true, if_true, Bool.true_and]
    by_cases h2 : (y.k : Int) = y.i
    · simp only [h2, beq_self_eq_true, if_true, Bool.not_true, Bool.false_eq_true, if_false]
      cases getF y.u0 y.u1 y.w y.i == y.x <;> rfl
    · have h3 : ((y.k : Int) == y.i) = false := by simpa using h2
      simp only [h2, h3, if_false, Bool.not_false, if_true, Bool.false_eq_true]
      cases getF y.u0 y.u1 y.w y.k == getF y.v0 y.v1 y.w y.k <;> rfl
  · simp only [h1, decide_false, Bool.false_and, Bool.false_eq_true, if_false]
noncomputable def parse4 (st : St) : Option (Bool × X4) := match st with
  | ⟨t, [some ⟨.agg [.u64 v0, .u64 v1], true⟩, some ⟨.agg [.u64 u0, .u64 u1], true⟩]⟩ =>
    match t.getD 2 .any, t.getD 3 .any, t.getD 4 .any, t.getD 8 .any, t.getD 9 .any, t.getD 10 .any, t.getD 11 .any, t.getD 12 .any with
    | .i .i64 i, .u64 x, .ptr 0 0, .bool false, .i .i64 w, .ptr 1 0, .i .i64 e, .i .i64 (.ofNat k) => some (decide (t.length = 89 ∧ okW w = true ∧ k ≤ (128 / w).toNat), ⟨v0, v1, u0, u1, w, i, x, e, k⟩)
    | _, _, _, _, _, _, _, _ => none
  | _ => none
noncomputable def fin4 (y : X4) : X4 := iter go4 next4 ((128 / y.w).toNat - y.k) y
noncomputable abbrev sum4 : LoopF := sumG keep4 parse4 (fun y => decide ((y.k : Int) < 128 / y.w)) .ret (fun y => S4 y y.k) (.exit 0) (fun y => S4 y y.k) fin4
theorem m4 (y : X4) (h : go4 y = true) : (128 / y.w).toNat - y.k = (128 / (next4 y).w).toNat - (next4 y).k + 1 := by
  simp only [go4, Bool.and_eq_true, decide_eq_true_eq] at h
  show (128 / y.w).toNat - y.k = (128 / y.w).toNat - (y.k + 1) + 1
  omega
theorem sem4 : SemOK Tryd.prog G0 c4 sum4 := by
  refine SemOK.count (sp := tabOf [(13, GetS)]) (ann := fun _ => []) (ls := fun _ => none) (TableOK.cons Get13 TableOK.nil) mixed 50 LsOK.none (fun y : X4 => S4 y y.k) _ _ (by simp [Ex.out]) _ _ (by simp [Ex.out]) _ keep4 parse4 go4 next4 I4 ?_ body4 (fun y => (128 / y.w).toNat - y.k) m4 ?_
  · intro y ⟨h1, h2⟩ hg
    simp only [go4, Bool.and_eq_true, decide_eq_true_eq] at hg
    exact ⟨h1, by show y.k + 1 ≤ (128 / y.w).toNat; omega⟩
  · intro st y hx
    unfold parse4 at hx
    split at hx
    · rename_i t v0 v1 u0 u1
      split at hx
      · rename_i i x w e k h2 h3 h4 h8 h9 h10 h11 h12
        simp only [Option.some.injEq, Prod.mk.injEq, decide_eq_true_eq] at hx
        obtain ⟨⟨g1, g2, g3⟩, rfl⟩ := hx
        refine ⟨⟨g2, g3⟩, fun w0 L' a w hrel => ?_⟩
        exact Rel.pick hrel g1 fun x hx => by
          simp only [List.mem_cons, List.not_mem_nil, or_false] at hx
          rcases hx with rfl | rfl | rfl | rfl | rfl | rfl | rfl | rfl
          · exact h2
          · exact h3
          · exact h4
          · exact h8
          · exact h9
          · exact h10
          · exact h11
          · exact h12
      · cases hx
    · cases hx
theorem fin4_end (y : X4) (hw : okW y.w = true) (hi : okI y.w y.i = true) (hx : y.x ≤ maskF y.w) (hu : (y.u0, y.u1) = setF y.v0 y.v1 y.w y.i y.x) : decide (((fin4 y).k : Int) < 128 / (fin4 y).w) = false := by
  let J : X4 → Prop := fun z => z.w = y.w ∧ z.i = y.i ∧ z.x = y.x ∧ z.v0 = y.v0 ∧ z.v1 = y.v1 ∧ z.u0 = y.u0 ∧ z.u1 = y.u1
  have hJ : J (fin4 y) := iter_inv (go := go4) (next := next4) (J := J) (fun z h _ => h) _ _ ⟨rfl, rfl, rfl, rfl, rfl, rfl, rfl⟩
  have hs : go4 (fin4 y) = false := iter_stop (m := fun y => (128 / y.w).toNat - y.k) m4 _ y rfl
  revert hJ hs
  generalize fin4 y = z
  intro ⟨j1, j2, j3, j4, j5, j6, j7⟩ hs
  cases hd : decide ((z.k : Int) < 128 / z.w)
  · rfl
  · have hk : z.k < (128 / y.w).toNat := by
      have := of_decide_eq_true hd
      rw [j1] at this
      omega
    have e := get_set hi hk y.v0 y.v1 hx
    rw [← hu] at e
    have hd' : decide ((z.k : Int) < 128 / y.w) = true := by rw [← j1]; exact hd
    simp only [go4, j1, j2, j3, j4, j5, j6, j7] at hs
    rw [hd', Bool.true_and] at hs
    dsimp only at e
    by_cases h2 : (z.k : Int) = y.i
    · rw [if_pos h2] at hs e
      rw [e] at hs; simp at hs
    · rw [if_neg h2] at hs e
      rw [e] at hs; simp at hs
noncomputable def ls4 : Nat → Option LoopF := lsOf [(7, sum4)]
theorem loops4 : LsOK Tryd.prog G0 ls4 (Tryd.f4.body.getD .skip) := by
  refine LsOK.of (of_decide_eq_true (by kernel_rfl)) fun x hx => ?_
  simp only [List.mem_cons, List.not_mem_nil, or_false] at hx
  subst hx
  exact sem4
noncomputable def y4 (v0 v1 : BitVec 64) (w i : Int) (x : BitVec 64) : X4 := ⟨v0, v1, ifF (okS w i x) (setF v0 v1 w i x).1, ifF (okS w i x) (setF v0 v1 w i x).2, w, i, x, errF (okS w i x), 0⟩
theorem law4 (v0 v1 : BitVec 64) (n : BitVec 8) (i : Int) (x : BitVec 64) : execFnL Tryd.prog G0 (tabOf [(15, SetS), (17, worksS), (18, widS)]) (fun _ => []) ls4 Tryd.f4 50 [vec v0 v1, .u8 n, .i .i64 i, .u64 x] some =
  if decide (i < 0) = false then
    if widF n = 0 then none
    else if decide (IntKind.i64.wrap (Int.tdiv 128 (widF n)) ≤ i) = true then some (.bool true)
    else if decide (89 = 89 ∧ okW (widF n) = true ∧ 0 ≤ (128 / widF n).toNat) = true then
      if decide (((fin4 (y4 v0 v1 (widF n) i (x &&& maskF (widF n)))).k : Int) < 128 / (fin4 (y4 v0 v1 (widF n) i (x &&& maskF (widF n)))).w) = true then some (.bool false)
      else if ((fin4 (y4 v0 v1 (widF n) i (x &&& maskF (widF n)))).e == 0) = true then some (.bool true) else some (.bool false)
    else none
  else some (.bool true) := by kernel_rfl
theorem set4 : Snd 4 (trueS fun | [.agg [.u64 _, .u64 _], .u8 _, .i .i64 _, .u64 _] => true | _ => false) := by
  refine Sound.guard (execFnL_sound (ann := fun _ => []) (ls := ls4) (TableOK.cons Set15 (TableOK.cons works17 (TableOK.cons wid18 TableOK.nil))) mixed Tryd.func4 (by kernel_rfl) 50 (fun c hc => by
    have e : c = Tryd.f4.body.getD .skip := by rw [hc]; rfl
    rw [e]; exact loops4)) fun ds d h => ?_
  simp only [Option.some.injEq, Prod.mk.injEq] at h
  obtain ⟨h, rfl⟩ := h
  split at h
  · rename_i v0 v1 n i x
    refine (law4 v0 v1 n i x).trans ?_
    have hw := okW_wid n
    generalize widF n = w at hw
    rw [if_neg (okW_ne hw), okW_div hw]
    by_cases h0 : i < 0
    · simp [h0]
    · by_cases h1 : 128 / w ≤ i
      · simp [h0, h1]
      · have hi : okI w i = true := by simp [okI, hw]; omega
        have hx := and_le x (maskF w)
        have hok : okS w i (x &&& maskF w) = true := by simp [okS, hi, hx]
        have hf := fin4_end (y4 v0 v1 w i (x &&& maskF w)) hw hi hx (by simp [y4, hok, ifF])
        have he : (fin4 (y4 v0 v1 w i (x &&& maskF w))).e = 0 := by
          have := iter_inv (go := go4) (next := next4) (J := fun z => z.e = 0) (fun z h _ => h) ((128 / (y4 v0 v1 w i (x &&& maskF w)).w).toNat - (y4 v0 v1 w i (x &&& maskF w)).k) (y4 v0 v1 w i (x &&& maskF w)) (by simp [y4, hok, errF])
          exact this
        rw [hf, he]
        simp [h0, h1, hw]
  · cases h
end Go.L06

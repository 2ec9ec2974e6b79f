/-
  Part of the proof; what its functions and lemmas say stands in the text.
-/
import Derived.Test.YtakonchpkchfhaaDoorS03s
set_option linter.unusedSimpArgs false
set_option linter.unusedVariables false
/-!
Whole numbers: the reference's operators of one.
-/
namespace Go.L03
open Go.Ev Go.Proofs Go.RowKit Go.Wh

noncomputable def oneRf (o : BitVec 8) (w : Int) (a : BitVec 64) : Option D :=
  if (o == 26#8) = true then (if decide (106 = 106 ∧ (-1 ≤ IntKind.i64.wrap (w - 1) ∧ IntKind.i64.wrap (w - 1) ≤ 63)) = true then some (.tup [.u64 (iter golz nextlz ((IntKind.i64.wrap (w - 1) + 1).toNat) ⟨a, 0#64, IntKind.i64.wrap (w - 1)⟩).n, .i .i64 0]) else none) else
  if (o == 27#8) = true then (if decide (106 = 106 ∧ (okW w = true ∧ 0 ≤ w.toNat)) = true then some (.tup [.u64 (iter gotz nexttz (w.toNat - 0) ⟨w, a, 0#64, 0⟩).n, .i .i64 0]) else none) else
  if (o == 28#8) = true then (if decide (106 = 106 ∧ (okW w = true ∧ 0 ≤ w.toNat)) = true then some (.tup [.u64 (iter gopc nextpc (w.toNat - 0) ⟨w, a, 0#64, 0⟩).n, .i .i64 0]) else none) else
  if (o == 29#8) = true then (if decide (maskF w / 2#64 < a) = true then some (.tup [.u64 (maskF w - a + 1#64 &&& maskF w), .i .i64 0]) else some (.tup [.u64 a, .i .i64 0])) else
  if (o == 30#8) = true then some (.tup [.u64 (maskF w - a + 1#64 &&& maskF w), .i .i64 0]) else
  if (o == 31#8) = true then some (.tup [.u64 (maskF w - a), .i .i64 0]) else
  some (.tup [.u64 0#64, .i .i64 2])
theorem nf_rOne (o : BitVec 8) (w : Int) (a : BitVec 64) : execFnL Tryd.prog G0 (tabOf [(35, widthS), (36, fitsS), (37, maskS)]) (fun _ => []) ls17 Tryd.f17 50 [.u8 o, .i .i64 w, .u64 a] some =
  if (!okW w) = false then if (!decide (a ≤ maskF w)) = true then some (.tup [.u64 0#64, .i .i64 2]) else oneRf o w a else some (.tup [.u64 0#64, .i .i64 2]) := by kernel_rfl
theorem may_ref1 {w : Int} {a : BitVec 64} {x y : Option D} : (if (!okW w) = false then if (!decide (a ≤ maskF w)) = true then x else y else x) = if (!mayF w [a]) = true then x else y := by
  simp only [mayF, List.all_cons, List.all_nil, Bool.and_true]
  generalize okW w = c0
  generalize decide (a ≤ maskF w) = c1
  cases c0 <;> cases c1 <;> rfl
theorem oneRf_eq {o : BitVec 8} {w : Int} {a : BitVec 64} (h : mayF w [a] = true) : oneRf o w a = oneT o w a := by
  have ha := may_fit1 h
  have hw := (fitF_nat ha).1
  obtain ⟨g1, g2⟩ := okW_rng hw
  obtain ⟨r1, r2, r3⟩ := abs_ref ha
  have e1 : IntKind.i64.wrap (w - 1) = w - 1 := wrap_in (by omega) (by omega)
  have c1 : decide (106 = 106 ∧ (-1 ≤ w - 1 ∧ w - 1 ≤ 63)) = true := decide_eq_true ⟨rfl, by omega, by omega⟩
  have c2 : decide (106 = 106 ∧ (okW w = true ∧ 0 ≤ w.toNat)) = true := decide_eq_true ⟨rfl, hw, by omega⟩
  unfold oneRf oneT
  rw [e1, if_pos c1, if_pos c2, if_pos c2, finlz ha, fintz ha, finpc ha, r2, r3]
  by_cases h0 : 0 ≤ sgnF w a
  · rw [if_neg (fun h => r1.1 h h0), if_pos h0]
  · rw [if_pos (r1.2 h0), if_neg h0]
theorem t_rOne : Snd 17 OneS := by
  refine Sound.join (execFnL_sound (ann := fun _ => []) (ls := ls17) (TableOK.cons t_Width (TableOK.cons t_Fits (TableOK.cons t_Most TableOK.nil))) mixed Tryd.func17 (by kernel_rfl) 50 (fun c hc => by
    have e : c = Tryd.f17.body.getD .skip := by rw [hc]; rfl
    rw [e]; exact loops17)) fun ds d h => ?_
  split at h
  · rename_i o w a
    cases h
    exact (nf_rOne o w a).trans (may_ref1.trans (one_end fun hm => oneRf_eq hm))
  · cases h
end Go.L03

/-
  Part of the proof; what its functions and lemmas say stands in the text.
-/
import Derived.Test.YtlcgkcnknjflpaaDoorS06h
set_option linter.unusedSimpArgs false
set_option linter.unusedVariables false
/-!
Chapter 06: the operators bit by bit.
-/
namespace Go.L06
open Go.Ev Go.Proofs Go.RowKit Go.Rt

def okO (o : BitVec 8) : Bool := o == 1#8 || o == 2#8 || o == 3#8 || o == 4#8 || o == 5#8 || o == 6#8
noncomputable def BitsS : Ev.Spec := joined fun
  | [.u8 o, .agg [.u64 x0, .u64 x1], .agg [.u64 y0, .u64 y1], .agg [.u64 z0, .u64 z1]] => some (.tup [vec (ifF (okO o) (opW o x0 y0 z0)) (ifF (okO o) (opW o x1 y1 z1)), .i .i64 (errF (okO o))])
  | _ => none
theorem Bits19 : Snd 19 BitsS := by
  refine Sound.join (execFn_sound (ann := fun _ => []) TableOK.nil mixed Tryd.func19 (by kernel_rfl) 50) fun ds d h => ?_
  split at h
  · rename_i o x0 x1 y0 y1 z0 z1
    cases h
    have nf : ex [] (fun _ => []) Tryd.f19 [.u8 o, vec x0 x1, vec y0 y1, vec z0 z1] some = if (o == 1#8) = true then some (D.tup [D.agg [D.u64 (~~~x0), D.u64 (~~~x1)], D.i IntKind.i64 0])
      else
        if (o == 2#8) = true then some (D.tup [D.agg [D.u64 (x0 &&& y0), D.u64 (x1 &&& y1)], D.i IntKind.i64 0])
        else
          if (o == 3#8) = true then some (D.tup [D.agg [D.u64 (x0 &&& ~~~y0), D.u64 (x1 &&& ~~~y1)], D.i IntKind.i64 0])
          else
            if (o == 4#8) = true then some (D.tup [D.agg [D.u64 (x0 ||| y0), D.u64 (x1 ||| y1)], D.i IntKind.i64 0])
            else
              if (o == 5#8) = true then some (D.tup [D.agg [D.u64 (x0 ^^^ y0), D.u64 (x1 ^^^ y1)], D.i IntKind.i64 0])
              else
                if (o == 6#8) = true then
                  some
                    (D.tup
                      [D.agg [D.u64 (x0 &&& z0 ||| y0 &&& ~~~z0), D.u64 (x1 &&& z1 ||| y1 &&& ~~~z1)], D.i IntKind.i64 0])
                else some (D.tup [D.agg [D.u64 0#64, D.u64 0#64], D.i IntKind.i64 2]) := by kernel_rfl
    refine nf.trans ?_
    simp only [beq_iff_eq]
    unfold opW okO
    repeat' split
    all_goals simp_all [ifF, errF]
  · cases h
theorem okO_iff (o : BitVec 8) : okO o = (decide (1#8 ≤ o) && decide (o ≤ 6#8)) := by
  unfold okO
  rw [Bool.eq_iff_iff]
  simp only [Bool.or_eq_true, Bool.and_eq_true, beq_iff_eq, decide_eq_true_eq, BitVec.le_def, ← BitVec.toNat_inj]
  simp
  omega
noncomputable def ls20 : Nat → Option LoopF := lsOf [(6, sumF [0, 8, 10, 11, 12, 13, 14] parse20 (fun _ => .exit 0) (fun x => S20 x.o x.A x.B x.C x.L x.i) fin20)]
theorem Bits20 : Snd 20 BitsS := by
  refine Sound.join (execFnL_sound (ann := ann20) (ls := ls20) (TableOK.cons bytes25 (TableOK.cons ofBytesL27 TableOK.nil)) mixed Tryd.func20 (by kernel_rfl) 50 (fun c hc => by
    have e : c = Tryd.f20.body.getD .skip := by rw [hc]; rfl
    rw [e]; exact loops20)) fun ds d h => ?_
  split at h
  · rename_i o x0 x1 y0 y1 z0 z1
    cases h
    have nf : ∀ (L : List (BitVec 8)), L = loop20 o (bytesF x0 x1) (bytesF y0 y1) (bytesF z0 z1) 0 [0#8, 0#8, 0#8, 0#8, 0#8, 0#8, 0#8, 0#8, 0#8, 0#8, 0#8, 0#8, 0#8, 0#8, 0#8, 0#8] 128 →
        execFnL Tryd.prog G0 (tabOf [(25, bytesS), (27, ofBytesL)]) ann20 ls20 Tryd.f20 50 [.u8 o, vec x0 x1, vec y0 y1, vec z0 z1] some =
      if decide (o < 1#8) = false then
        if decide (6#8 < o) = true then some (D.tup [D.agg [D.u64 0#64, D.u64 0#64], D.i IntKind.i64 2])
        else
          if L.length = 16 then
            if decide (L.length = 16) = true then some (.tup [vec (w8 (L.getD 0 0#8) (L.getD 1 0#8) (L.getD 2 0#8) (L.getD 3 0#8) (L.getD 4 0#8) (L.getD 5 0#8) (L.getD 6 0#8) (L.getD 7 0#8)) (w8 (L.getD 8 0#8) (L.getD 9 0#8) (L.getD 10 0#8) (L.getD 11 0#8) (L.getD 12 0#8) (L.getD 13 0#8) (L.getD 14 0#8) (L.getD 15 0#8)), .i .i64 0])
            else none
          else none
      else some (D.tup [D.agg [D.u64 0#64, D.u64 0#64], D.i IntKind.i64 2]) := by
      intro L hL
      subst hL
      kernel_rfl
    refine (nf _ rfl).trans ?_
    have hlen : ∀ n i L, (loop20 o (bytesF x0 x1) (bytesF y0 y1) (bytesF z0 z1) i L n).length = L.length := by
      intro n
      induction n with
      | zero => intro i L; rfl
      | succ n ih => intro i L; simp only [loop20]; rw [ih, step20_length]
    have hl := hlen 128 0 [0#8, 0#8, 0#8, 0#8, 0#8, 0#8, 0#8, 0#8, 0#8, 0#8, 0#8, 0#8, 0#8, 0#8, 0#8, 0#8]
    simp only [hl, List.length_cons, List.length_nil]
    simp only [loop20_bytes _ _ _ _ _ (show 0 < 16 by decide), loop20_bytes _ _ _ _ _ (show 1 < 16 by decide), loop20_bytes _ _ _ _ _ (show 2 < 16 by decide), loop20_bytes _ _ _ _ _ (show 3 < 16 by decide), loop20_bytes _ _ _ _ _ (show 4 < 16 by decide), loop20_bytes _ _ _ _ _ (show 5 < 16 by decide), loop20_bytes _ _ _ _ _ (show 6 < 16 by decide), loop20_bytes _ _ _ _ _ (show 7 < 16 by decide), loop20_bytes _ _ _ _ _ (show 8 < 16 by decide), loop20_bytes _ _ _ _ _ (show 9 < 16 by decide), loop20_bytes _ _ _ _ _ (show 10 < 16 by decide), loop20_bytes _ _ _ _ _ (show 11 < 16 by decide), loop20_bytes _ _ _ _ _ (show 12 < 16 by decide), loop20_bytes _ _ _ _ _ (show 13 < 16 by decide), loop20_bytes _ _ _ _ _ (show 14 < 16 by decide), loop20_bytes _ _ _ _ _ (show 15 < 16 by decide)]
    have b : ∀ (x y z : BitVec 64), w8 (opW o (bt x 0) (bt y 0) (bt z 0)) (opW o (bt x 8) (bt y 8) (bt z 8)) (opW o (bt x 16) (bt y 16) (bt z 16)) (opW o (bt x 24) (bt y 24) (bt z 24)) (opW o (bt x 32) (bt y 32) (bt z 32)) (opW o (bt x 40) (bt y 40) (bt z 40)) (opW o (bt x 48) (bt y 48) (bt z 48)) (opW o (bt x 56) (bt y 56) (bt z 56)) = opW o x y z := by
      intro x y z
      rw [opW_bt _ _ _ _ _ (by decide), opW_bt _ _ _ _ _ (by decide), opW_bt _ _ _ _ _ (by decide), opW_bt _ _ _ _ _ (by decide), opW_bt _ _ _ _ _ (by decide), opW_bt _ _ _ _ _ (by decide), opW_bt _ _ _ _ _ (by decide), opW_bt _ _ _ _ _ (by decide), w8_bt]
    have b0 := b x0 y0 z0
    have b1 := b x1 y1 z1
    simp only [bytesF, List.getD_cons_zero, List.getD_cons_succ, b0, b1]
    rw [okO_iff]
    by_cases h1 : 1#8 ≤ o
    · by_cases h2 : o ≤ 6#8
      · have h3 : ¬ o < 1#8 := BitVec.not_lt.2 h1
        have h4 : ¬ 6#8 < o := BitVec.not_lt.2 h2
        simp [h1, h2, h3, h4, ifF, errF]
      · have h3 : ¬ o < 1#8 := BitVec.not_lt.2 h1
        have h4 : 6#8 < o := BitVec.not_le.1 h2
        simp [h1, h2, h3, h4, ifF, errF]
    · have h3 : o < 1#8 := BitVec.not_le.1 h1
      simp [h1, h3, ifF, errF]
  · cases h
def anyF (x y : BitVec 64) : Bool := !(x == 0#64 && y == 0#64)
noncomputable def AnyS : Ev.Spec := joined fun | [.agg [.u64 x, .u64 y]] => some (.bool (anyF x y)) | _ => none
theorem Any21 : Snd 21 AnyS := by
  refine Sound.join (execFn_sound (ann := fun _ => []) TableOK.nil mixed Tryd.func21 (by kernel_rfl) 50) fun ds d h => ?_
  split at h
  · cases h; kernel_rfl
  · cases h
theorem Any22 : Snd 22 AnyS := by
  refine Sound.join (execFn_sound (ann := fun _ => []) TableOK.nil mixed Tryd.func22 (by kernel_rfl) 50) fun ds d h => ?_
  split at h
  · rename_i x y
    cases h
    have nf : ex [] (fun _ => []) Tryd.f22 [vec x y] some = if decide (0#64 < x) = false then some (.bool (decide (0#64 < y))) else some (.bool true) := by kernel_rfl
    refine nf.trans ?_
    have e : ∀ x : BitVec 64, decide (0#64 < x) = !(x == 0#64) := by
      intro x
      rw [Bool.eq_iff_iff]
      simp only [decide_eq_true_eq, Bool.not_eq_true', beq_eq_false_iff_ne, BitVec.lt_def, ne_eq, ← BitVec.toNat_inj]
      simp
      omega
    rw [e, e]
    unfold anyF
    cases x == 0#64 <;> cases y == 0#64 <;> rfl
  · cases h
end Go.L06

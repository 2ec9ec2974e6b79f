/-
  Part of the proof; what its functions and lemmas say stands in the text.
-/
import Derived.Test.YtnbafdmlfpmfkaaGreatDoorQ23S
import Derived.Test.YtnbafdmlfpmfkaaGreatDoorS23w
set_option linter.unusedSimpArgs false
set_option linter.unusedVariables false
/-!
Layer 23: what is stored, and loaded again.
-/
set_option maxRecDepth 100000
set_option maxHeartbeats 0
namespace Go.L23
open Go.Ev Go.Proofs Go.RowKit Go.Wh

def p16 : List Nat := [40, 41, 42, 43, 44, 45, 46, 47, 48, 49, 50, 51, 52, 53, 54, 55, 56, 57, 58, 59, 60, 61, 62, 64768, 64769, 64770, 64771, 64772, 64773, 64774, 64775, 64776, 64777, 64778, 64779, 64860, 64861]
/-- Stores and loads of as many bits: the number that is stored from, that is loaded to. -/
def pairs : List (Nat × Nat × BitVec 8 × BitVec 8) := [(54, 40, 127#8, 127#8), (54, 42, 127#8, 125#8), (54, 52, 127#8, 126#8), (54, 53, 127#8, 126#8), (54, 64777, 127#8, 123#8), (54, 64860, 127#8, 123#8), (55, 41, 126#8, 126#8), (55, 43, 126#8, 124#8), (55, 64769, 126#8, 123#8), (55, 64770, 126#8, 123#8), (55, 64771, 126#8, 123#8), (55, 64772, 126#8, 123#8), (55, 64773, 126#8, 123#8), (55, 64774, 126#8, 123#8), (55, 64778, 126#8, 123#8), (55, 64861, 126#8, 123#8), (56, 40, 125#8, 127#8), (56, 42, 125#8, 125#8), (56, 52, 125#8, 126#8), (56, 53, 125#8, 126#8), (56, 64777, 125#8, 123#8), (56, 64860, 125#8, 123#8), (57, 41, 124#8, 126#8), (57, 43, 124#8, 124#8), (57, 64769, 124#8, 123#8), (57, 64770, 124#8, 123#8), (57, 64771, 124#8, 123#8), (57, 64772, 124#8, 123#8), (57, 64773, 124#8, 123#8), (57, 64774, 124#8, 123#8), (57, 64778, 124#8, 123#8), (57, 64861, 124#8, 123#8), (58, 44, 127#8, 127#8), (58, 45, 127#8, 127#8), (58, 48, 127#8, 126#8), (58, 49, 127#8, 126#8), (58, 64775, 127#8, 123#8), (59, 46, 127#8, 127#8), (59, 47, 127#8, 127#8), (59, 50, 127#8, 126#8), (59, 51, 127#8, 126#8), (59, 64776, 127#8, 123#8), (60, 44, 126#8, 127#8), (60, 45, 126#8, 127#8), (60, 48, 126#8, 126#8), (60, 49, 126#8, 126#8), (60, 64775, 126#8, 123#8), (61, 46, 126#8, 127#8), (61, 47, 126#8, 127#8), (61, 50, 126#8, 126#8), (61, 51, 126#8, 126#8), (61, 64776, 126#8, 123#8), (62, 40, 126#8, 127#8), (62, 42, 126#8, 125#8), (62, 52, 126#8, 126#8), (62, 53, 126#8, 126#8), (62, 64777, 126#8, 123#8), (62, 64860, 126#8, 123#8), (64779, 64768, 123#8, 123#8)]
structure WkR where
  a : BitVec 16
  s : ByteArray
  m : BitVec 8
  tn : Bool
  to : List (BitVec 8)
  b : Int
  p : Bool
  e : Int
abbrev nst : D := .c (.slice none 0 0)
noncomputable def OfT (R : Nat → WkR) : Ev.Spec := fun ds K => match ds with
  | [.u16 x] => if (R x.toNat).tn = true then K (.tup [.agg [.u16 (R x.toNat).a, .c (.string (R x.toNat).s), .u8 (R x.toNat).m, .xs, .c (.slice none 0 0), .i .i64 (R x.toNat).b, .bool (R x.toNat).p], .i .i64 (R x.toNat).e])
    else K (.tup [.agg [.u16 (R x.toNat).a, .c (.string (R x.toNat).s), .u8 (R x.toNat).m, .xs, .sl8 (R x.toNat).to, .i .i64 (R x.toNat).b, .bool (R x.toNat).p], .i .i64 (R x.toNat).e])
  | _ => none
def isSl (F : D) : Prop := F = nst ∨ (∃ l, F = .sl8 l) ∨ F = .xs
def WkOK (n : Nat) (r : WkR) : Prop := ∃ F, isSl F ∧ wkF n = .tup [.agg [.u16 r.a, .c (.string r.s), .u8 r.m, F, (if r.tn = true then nst else .sl8 r.to), .i .i64 r.b, .bool r.p], .i .i64 r.e]
theorem wk_ex (n : Nat) : ∃ r : WkR, WkOK n r := by
  unfold WkOK wkF
  cases hl : lookO insAll n with
  | none => exact ⟨⟨0#16, ⟨⟨[]⟩⟩, 0#8, true, [], 0, false, 11⟩, nst, .inl rfl, rfl⟩
  | some i =>
    have h := List.all_eq_true.1 look_all i (lookO_mem hl).1
    show ∃ r : WkR, ∃ F, isSl F ∧ D.tup [weakI (infoD i), .i .i64 0] = _
    generalize infoD i = d at h
    unfold lookD at h
    split at h
    · rename_i a s m b p
      exact ⟨⟨a, s, m, true, [], b, p, 0⟩, nst, .inl rfl, rfl⟩
    · rename_i a s m l b p
      exact ⟨⟨a, s, m, false, l, b, p, 0⟩, .xs, .inr (.inr rfl), rfl⟩
    · rename_i a s m l b p
      exact ⟨⟨a, s, m, true, [], b, p, 0⟩, .sl8 l, .inr (.inl ⟨l, rfl⟩), rfl⟩
    · rename_i a s m l l2 b p
      exact ⟨⟨a, s, m, false, l2, b, p, 0⟩, .xs, .inr (.inr rfl), rfl⟩
    · cases h
theorem isSl_lies {own : Option Nat} {w : World} {F : D} {v : Value} (hF : isSl F) (h : lies own w F v) : lies own w .xs v := by
  rcases hF with rfl | ⟨l, rfl⟩ | rfl
  · simp only [lies] at h ⊢; subst h; exact ⟨_, _, _, rfl⟩
  · simp only [lies] at h ⊢; obtain ⟨b, o, cap, rfl, _⟩ := h; exact ⟨_, _, _, rfl⟩
  · exact h
theorem tup_lies {own : Option Nat} {w : World} {a b c F t g h e : D} {v : Value} (hF : isSl F) (hl : lies own w (.tup [.agg [a, b, c, F, t, g, h], e]) v) : lies own w (.tup [.agg [a, b, c, .xs, t, g, h], e]) v := by
  simp only [lies, lie] at hl ⊢
  obtain ⟨cs, hv, u, _, rfl, ⟨cs2, e2, v1, _, rfl, h1, v2, _, rfl, h2, v3, _, rfl, h3, v4, t4, rfl, h4, rest⟩, r2⟩ := hl
  exact ⟨_, hv, u, _, rfl, ⟨_, e2, v1, _, rfl, h1, v2, _, rfl, h2, v3, _, rfl, h3, v4, t4, rfl, isSl_lies hF h4, rest⟩, r2⟩
theorem t_OfT {R : Nat → WkR} (hR : ∀ n, WkOK n (R n)) : Snd 13 (OfT R) := by
  intro ds K r h
  unfold OfT at h
  split at h
  · rename_i x
    obtain ⟨F, hF, e⟩ := hR x.toNat
    have hp : Pt Tryz.prog G0 13 [.u16 x] (wkF x.toNat) := t_rof.pt rfl
    rw [e] at hp
    split at h
    · rename_i ht
      rw [if_pos ht] at hp
      exact ⟨_, h, fun w args hG hl => callGo_mono (hp w args hG hl) fun w' v hv => tup_lies hF hv⟩
    · rename_i ht
      rw [if_neg ht] at hp
      exact ⟨_, h, fun w args hG hl => callGo_mono (hp w args hG hl) fun w' v hv => tup_lies hF hv⟩
  · cases h
def chain (eo ep : Int) (mo mp : BitVec 8) (d : Option D) : Option D :=
  if (!(eo == 0)) = false then if (!(ep == 0)) = false then if (!(mo == 16#8)) = false then if (!(mp == 16#8)) = false then d else some (.bool true) else some (.bool true) else some (.bool true) else some (.bool true)
theorem back_nf (R : Nat → WkR) (o p : BitVec 16) (t : BitVec 8) (x y : BitVec 64) : ex [(13, OfT R), (12, worksS)] (fun _ => []) Tryz.f4 [.u16 o, .u16 p, .agg [.u8 t, .u64 x, .u64 y]] some =
  if (R o.toNat).tn = true then if (R p.toNat).tn = true then chain (R o.toNat).e (R p.toNat).e (R o.toNat).m (R p.toNat).m (some (.bool true))
    else chain (R o.toNat).e (R p.toNat).e (R o.toNat).m (R p.toNat).m (if (!(((R p.toNat).to.length : Int) == 1)) = false then if (!((R o.toNat).b == (R p.toNat).b)) = true then some (.bool true) else none else some (.bool true))
  else if (R p.toNat).tn = true then chain (R o.toNat).e (R p.toNat).e (R o.toNat).m (R p.toNat).m (if (!(((R o.toNat).to.length : Int) == 0)) = false then some (.bool true) else some (.bool true))
    else chain (R o.toNat).e (R p.toNat).e (R o.toNat).m (R p.toNat).m (if (!(((R o.toNat).to.length : Int) == 0)) = false then if (!(((R p.toNat).to.length : Int) == 1)) = false then if (!((R o.toNat).b == (R p.toNat).b)) = true then some (.bool true) else none else some (.bool true) else some (.bool true)) := by kernel_rfl
/-- What a row has: what stands behind, its types, bits, error. -/
def partsD : D → Option (BitVec 8 × Bool × Nat × Int × Int)
  | .tup [.agg [_, _, .u8 m, _, .c (.slice none 0 0), .i .i64 b, _], .i .i64 e] => some (m, true, 0, b, e)
  | .tup [.agg [_, _, .u8 m, _, .sl8 l, .i .i64 b, _], .i .i64 e] => some (m, false, l.length, b, e)
  | _ => none
theorem parts_ok {n : Nat} {r : WkR} (h : WkOK n r) : partsD (wkF n) = some (r.m, r.tn, (if r.tn = true then 0 else r.to.length), r.b, r.e) := by
  obtain ⟨F, hF, e⟩ := h
  rw [e]
  obtain ⟨a, s, m, tn, to, b, p, e⟩ := r
  cases tn <;> rfl
/-- Does the first question answer? -/
def nfB : Option (BitVec 8 × Bool × Nat × Int × Int) → Option (BitVec 8 × Bool × Nat × Int × Int) → Bool
  | some (mo, tno, lo, bo, eo), some (mp, tnp, lp, bp, ep) => !(eo == 0) || (!(ep == 0) || (!(mo == 16#8) || (!(mp == 16#8) || ((if tno = true then false else !((lo : Int) == 0)) || (if tnp = true then true else (!((lp : Int) == 1) || !(bo == bp)))))))
  | _, _ => false
theorem p16_all : insAll.all (fun i => p16.contains i.op || (match partsD (wkF i.op) with | some q => !(q.1 == 16#8) | none => false)) = true := by kernel_rfl
theorem p16_pairs : p16.all (fun n => p16.all (fun m => nfB (partsD (wkF n)) (partsD (wkF m)) || pairs.any (fun q => q.1 == n && q.2.1 == m))) = true := by kernel_rfl
theorem nfB_true {R : Nat → WkR} (hR : ∀ n, WkOK n (R n)) {o p : BitVec 16} (t : BitVec 8) (x y : BitVec 64) (h : nfB (partsD (wkF o.toNat)) (partsD (wkF p.toNat)) = true) :
    ex [(13, OfT R), (12, worksS)] (fun _ => []) Tryz.f4 [.u16 o, .u16 p, .agg [.u8 t, .u64 x, .u64 y]] some = some (.bool true) := by
  rw [parts_ok (hR o.toNat), parts_ok (hR p.toNat)] at h
  rw [back_nf]
  unfold chain
  generalize R o.toNat = r at h
  generalize R p.toNat = q at h
  obtain ⟨_, _, mo, tno, too, bo, _, eo⟩ := r
  obtain ⟨_, _, mp, tnp, top, bp, _, ep⟩ := q
  cases tno <;> cases tnp <;> simp only [nfB, Bool.false_eq_true, if_true, if_false] at h ⊢
  all_goals
    cases h1 : eo == 0 <;> simp only [h1, Bool.not_true, Bool.not_false, Bool.true_or, Bool.false_or, Bool.true_eq_false, Bool.false_eq_true, if_true, if_false] at h ⊢
    cases h2 : ep == 0 <;> simp only [h2, Bool.not_true, Bool.not_false, Bool.true_or, Bool.false_or, Bool.true_eq_false, Bool.false_eq_true, if_true, if_false] at h ⊢
    cases h3 : mo == 16#8 <;> simp only [h3, Bool.not_true, Bool.not_false, Bool.true_or, Bool.false_or, Bool.true_eq_false, Bool.false_eq_true, if_true, if_false] at h ⊢
    cases h4 : mp == 16#8 <;> simp only [h4, Bool.not_true, Bool.not_false, Bool.true_or, Bool.false_or, Bool.true_eq_false, Bool.false_eq_true, if_true, if_false] at h ⊢
  all_goals repeat' split
  all_goals first | rfl | (simp_all; done)
/-- Two of them, with another type. -/
theorem pair_no : AllP (fun q : Nat × Nat × BitVec 8 × BitVec 8 => ∀ (t : BitVec 8) (x y : BitVec 64), ex [(13, rofS), (12, worksS)] (fun _ => []) Tryz.f4 [.u16 (BitVec.ofNat 16 q.1), .u16 (BitVec.ofNat 16 q.2.1), .agg [.u8 t, .u64 x, .u64 y]] some =
  if (!(t == q.2.2.1)) = false then if (!(q.2.2.2 == t)) = false then none else some (.bool true) else some (.bool true)) pairs := by
  refine AllP.cons ?_ (AllP.cons ?_ (AllP.cons ?_ (AllP.cons ?_ (AllP.cons ?_ (AllP.cons ?_ (AllP.cons ?_ (AllP.cons ?_ (AllP.cons ?_ (AllP.cons ?_ (AllP.cons ?_ (AllP.cons ?_ (AllP.cons ?_ (AllP.cons ?_ (AllP.cons ?_ (AllP.cons ?_ (AllP.cons ?_ (AllP.cons ?_ (AllP.cons ?_ (AllP.cons ?_ (AllP.cons ?_ (AllP.cons ?_ (AllP.cons ?_ (AllP.cons ?_ (AllP.cons ?_ (AllP.cons ?_ (AllP.cons ?_ (AllP.cons ?_ (AllP.cons ?_ (AllP.cons ?_ (AllP.cons ?_ (AllP.cons ?_ (AllP.cons ?_ (AllP.cons ?_ (AllP.cons ?_ (AllP.cons ?_ (AllP.cons ?_ (AllP.cons ?_ (AllP.cons ?_ (AllP.cons ?_ (AllP.cons ?_ (AllP.cons ?_ (AllP.cons ?_ (AllP.cons ?_ (AllP.cons ?_ (AllP.cons ?_ (AllP.cons ?_ (AllP.cons ?_ (AllP.cons ?_ (AllP.cons ?_ (AllP.cons ?_ (AllP.cons ?_ (AllP.cons ?_ (AllP.cons ?_ (AllP.cons ?_ (AllP.cons ?_ (AllP.cons ?_ (AllP.cons ?_ (AllP.cons ?_ (AllP.nil))))))))))))))))))))))))))))))))))))))))))))))))))))))))))) <;> (intro t x y; as_aux_lemma => kernel_rfl)
noncomputable abbrev Xbk (rl : Nat → BitVec 64 → BitVec 64 → BitVec 64 → BitVec 64 → Int → R4) (rs : Nat → BitVec 8 → BitVec 64 → BitVec 64 → Int → S4) : Ev.Spec := ex [(13, rofS), (12, worksS), (14, hasS), (15, StoreG rs), (10, LoadG rl)] (fun _ => []) Tryz.f4
def nfK (F : BitVec 8) (b : Int) (x y : BitVec 64) (S : S4) (L : R4) : Option D :=
  if (!hasF F x y) = false then if (!(S.2.2.2 == 0)) = false then if (!(L.2.2.2 == 0)) = false then if (!(S.2.2.1 == b / 8)) = false then if (!hasF L.1 L.2.1 L.2.2.1) = false then
    if (!(L.1 == F)) = true then some (.bool false) else if (L.2.1 &&& maskF b == x &&& maskF b) = true then some (.bool true) else some (.bool false)
  else some (.bool false) else some (.bool false) else some (.bool false) else some (.bool false) else some (.bool true)
/-- Those of one type: what is stored, and what is loaded. -/
def reals : List (Nat × Nat × BitVec 8 × Int × Int × Bool × Bool) := [(54, 40, 127#8, 32, 32, false, true), (55, 41, 126#8, 64, 64, false, true), (56, 42, 125#8, 32, 32, false, true), (57, 43, 124#8, 64, 64, false, true), (58, 44, 127#8, 8, 32, true, false), (58, 45, 127#8, 8, 32, false, false), (59, 46, 127#8, 16, 32, true, false), (59, 47, 127#8, 16, 32, false, false), (60, 48, 126#8, 8, 64, true, false), (60, 49, 126#8, 8, 64, false, false), (61, 50, 126#8, 16, 64, true, false), (61, 51, 126#8, 16, 64, false, false), (62, 52, 126#8, 32, 64, true, false), (62, 53, 126#8, 32, 64, false, false)]
theorem real_nf : AllP (fun q : Nat × Nat × BitVec 8 × Int × Int × Bool × Bool => ∀ (rl : Nat → BitVec 64 → BitVec 64 → BitVec 64 → BitVec 64 → Int → R4) (rs : Nat → BitVec 8 → BitVec 64 → BitVec 64 → Int → S4) (x y : BitVec 64),
  Xbk rl rs [.u16 (BitVec.ofNat 16 q.1), .u16 (BitVec.ofNat 16 q.2.1), .agg [.u8 q.2.2.1, .u64 x, .u64 y]] some = nfK q.2.2.1 q.2.2.2.1 x y (rs q.1 q.2.2.1 x y 0) (rl q.2.1 0#64 0#64 (rs q.1 q.2.2.1 x y 0).1 (rs q.1 q.2.2.1 x y 0).2.1 0)) reals := by
  refine AllP.cons ?_ (AllP.cons ?_ (AllP.cons ?_ (AllP.cons ?_ (AllP.cons ?_ (AllP.cons ?_ (AllP.cons ?_ (AllP.cons ?_ (AllP.cons ?_ (AllP.cons ?_ (AllP.cons ?_ (AllP.cons ?_ (AllP.cons ?_ (AllP.cons ?_ (AllP.nil)))))))))))))) <;> (intro rl rs x y; as_aux_lemma => kernel_rfl)
def okQ (q : Nat × Nat × BitVec 8 × Int × Int × Bool × Bool) : Bool := okW q.2.2.2.1 && okW q.2.2.2.2.1 && decide (q.2.2.2.1 ≤ q.2.2.2.2.1) && (q.2.2.2.2.1 == 32 && (q.2.2.1 == 127#8 || q.2.2.1 == 125#8) || q.2.2.2.2.1 == 64 && (q.2.2.1 == 126#8 || q.2.2.1 == 124#8))
theorem real_ok : AllP (fun q : Nat × Nat × BitVec 8 × Int × Int × Bool × Bool => stK q.1 = .num q.2.2.1 q.2.2.2.1 q.2.2.2.2.2.2 ∧ ldK q.2.1 = .num q.2.2.1 q.2.2.2.1 q.2.2.2.2.1 q.2.2.2.2.2.1 ∧ okQ q = true) reals := by
  refine AllP.cons ?_ (AllP.cons ?_ (AllP.cons ?_ (AllP.cons ?_ (AllP.cons ?_ (AllP.cons ?_ (AllP.cons ?_ (AllP.cons ?_ (AllP.cons ?_ (AllP.cons ?_ (AllP.cons ?_ (AllP.cons ?_ (AllP.cons ?_ (AllP.cons ?_ (AllP.nil)))))))))))))) <;> exact ⟨by kernel_rfl, by kernel_rfl, by kernel_rfl⟩
theorem mask_mask {b w : Int} (hb : okW b = true) (hw : okW w = true) (h : b ≤ w) : maskF w &&& maskF b = maskF b := by
  rcases okW_cases hb with rfl | rfl | rfl | rfl <;> rcases okW_cases hw with rfl | rfl | rfl | rfl <;> first | decide | omega
theorem ext_back {b w : Int} (hb : okW b = true) (hw : okW w = true) (h : b ≤ w) (s : Bool) (x : BitVec 64) : extF b w s (x &&& maskF b) &&& maskF b = x &&& maskF b := by
  cases s
  · show (x &&& maskF b) &&& maskF b = x &&& maskF b
    rw [BitVec.and_assoc, BitVec.and_self]
  · show (BitVec.ofInt 64 (sgnF b (x &&& maskF b)) &&& maskF w) &&& maskF b = x &&& maskF b
    rw [BitVec.and_assoc, mask_mask hb hw h, num_sgn (fit_and hb x)]
theorem ext_fit {b w : Int} (hb : okW b = true) (hw : okW w = true) (h : b ≤ w) (s : Bool) (x : BitVec 64) : fitF w (extF b w s (x &&& maskF b)) = true := by
  cases s
  · show fitF w (x &&& maskF b) = true
    rw [show x &&& maskF b = (x &&& maskF b) &&& maskF w by rw [BitVec.and_assoc, BitVec.and_comm (maskF b), mask_mask hb hw h]]
    exact fit_and hw _
  · exact fit_and hw _
theorem has_fit {F : BitVec 8} {w : Int} (h : (w == 32 && (F == 127#8 || F == 125#8) || w == 64 && (F == 126#8 || F == 124#8)) = true) {z : BitVec 64} (hz : fitF w z = true) : hasF F z 0#64 = true := by
  simp only [Bool.or_eq_true, Bool.and_eq_true, beq_iff_eq] at h
  rcases h with ⟨rfl, rfl | rfl⟩ | ⟨rfl, rfl | rfl⟩
  · have := le_of_fit hz
    rw [maskF32] at this
    simp [hasF, this]
  · have := le_of_fit hz
    rw [maskF32] at this
    simp [hasF, this]
  · rfl
  · rfl
theorem real_true {q : Nat × Nat × BitVec 8 × Int × Int × Bool × Bool} (hq : q ∈ reals) (x y : BitVec 64) :
    Xbk (fun n => ldR (ldK n)) (fun n => stR (stK n)) [.u16 (BitVec.ofNat 16 q.1), .u16 (BitVec.ofNat 16 q.2.1), .agg [.u8 q.2.2.1, .u64 x, .u64 y]] some = some (.bool true) := by
  rw [real_nf.mem hq]
  obtain ⟨h1, h2, h3⟩ := real_ok.mem hq
  obtain ⟨n, m, F, b, w, s, xx⟩ := q
  simp only [] at h1 h2 h3 ⊢
  rw [h1, h2]
  simp only [okQ, Bool.and_eq_true] at h3
  obtain ⟨⟨⟨hb, hw⟩, hle⟩, hF⟩ := h3
  have hle' : b ≤ w := by simpa using hle
  unfold nfK
  cases hh : hasF F x y
  · rfl
  · have eS : stR (.num F b xx) F x y 0 = (x &&& maskF b, 0#64, b / 8, 0) := by simp [stR, hh]
    rw [eS]
    have e2 : (x &&& maskF b) &&& maskF b = x &&& maskF b := by rw [BitVec.and_assoc, BitVec.and_self]
    simp only [ldR, e2, ext_back hb hw hle' s x, has_fit hF (ext_fit hb hw hle' s x)]
    simp
theorem all_nf (rl : Nat → BitVec 64 → BitVec 64 → BitVec 64 → BitVec 64 → Int → R4) (rs : Nat → BitVec 8 → BitVec 64 → BitVec 64 → Int → S4) (x y : BitVec 64) :
  Xbk rl rs [.u16 64779#16, .u16 64768#16, .agg [.u8 123#8, .u64 x, .u64 y]] some =
  if (!((rs 64779 123#8 x y 0).2.2.2 == 0)) = false then if (!((rl 64768 0#64 0#64 (rs 64779 123#8 x y 0).1 (rs 64779 123#8 x y 0).2.1 0).2.2.2 == 0)) = false then if (!((rs 64779 123#8 x y 0).2.2.1 == 16)) = false then
    if (!hasF (rl 64768 0#64 0#64 (rs 64779 123#8 x y 0).1 (rs 64779 123#8 x y 0).2.1 0).1 (rl 64768 0#64 0#64 (rs 64779 123#8 x y 0).1 (rs 64779 123#8 x y 0).2.1 0).2.1 (rl 64768 0#64 0#64 (rs 64779 123#8 x y 0).1 (rs 64779 123#8 x y 0).2.1 0).2.2.1) = false then
    if (!((rl 64768 0#64 0#64 (rs 64779 123#8 x y 0).1 (rs 64779 123#8 x y 0).2.1 0).1 == 123#8)) = true then some (.bool false) else
    if ((rl 64768 0#64 0#64 (rs 64779 123#8 x y 0).1 (rs 64779 123#8 x y 0).2.1 0).1 == 123#8 && ((rl 64768 0#64 0#64 (rs 64779 123#8 x y 0).1 (rs 64779 123#8 x y 0).2.1 0).2.1 == x && (rl 64768 0#64 0#64 (rs 64779 123#8 x y 0).1 (rs 64779 123#8 x y 0).2.1 0).2.2.1 == y)) = true then some (.bool true) else some (.bool false)
  else some (.bool false) else some (.bool false) else some (.bool false) else some (.bool false) := by kernel_rfl
theorem all_true (x y : BitVec 64) : Xbk (fun n => ldR (ldK n)) (fun n => stR (stK n)) [.u16 64779#16, .u16 64768#16, .agg [.u8 123#8, .u64 x, .u64 y]] some = some (.bool true) := by
  rw [all_nf]
  have e1 : stK 64779 = .all := by kernel_rfl
  have e2 : ldK 64768 = .all := by kernel_rfl
  have e3 : hasF 123#8 x y = true := rfl
  simp only [e1, e2, stR, ldR, e3, beq_self_eq_true, if_true]
  simp
/-- Every pair is one of two types, or one of those. -/
theorem pair_all : pairs.all (fun q => !(q.2.2.1 == q.2.2.2) || (reals.any (fun r => r.1 == q.1 && r.2.1 == q.2.1 && r.2.2.1 == q.2.2.1) || (q.1 == 64779 && q.2.1 == 64768 && q.2.2.1 == 123#8))) = true := by kernel_rfl
theorem tok_bk : Tok [(13, rofS), (12, worksS), (14, hasS), (15, StoreS), (10, LoadS)] := TableOK.cons t_rof (TableOK.cons t_works (TableOK.cons t_Has (TableOK.cons t_ps (TableOK.cons t_pl TableOK.nil))))
theorem back_pt (o p : BitVec 16) (t : BitVec 8) (x y : BitVec 64) : Pt Tryz.prog G0 4 [.u16 o, .u16 p, .agg [.u8 t, .u64 x, .u64 y]] (.bool true) := by
  have hR : ∀ n, WkOK n (Classical.choose (wk_ex n)) := fun n => Classical.choose_spec (wk_ex n)
  cases hn : nfB (partsD (wkF o.toNat)) (partsD (wkF p.toNat)) with
  | true => exact (execFn_sound (ann := fun _ => []) (TableOK.cons (t_OfT hR) (TableOK.cons t_works TableOK.nil)) mixed Tryz.func4 (by kernel_rfl) 50).pt (nfB_true hR t x y hn)
  | false =>
    have h16 : ∀ z : BitVec 16, (∃ q, partsD (wkF z.toNat) = some q ∧ q.1 = 16#8 ∧ q.2.2.2.2 = 0) → z.toNat ∈ p16 := by
      rintro z ⟨q, hq, h1, h2⟩
      cases hl : lookO insAll z.toNat with
      | none =>
        unfold wkF at hq
        rw [hl] at hq
        simp only [noInfo, partsD, Option.some.injEq] at hq
        subst hq
        cases h2
      | some i =>
        obtain ⟨hm, ho⟩ := lookO_mem hl
        have := List.all_eq_true.1 p16_all i hm
        rw [ho, hq] at this
        simp only [h1, beq_self_eq_true, Bool.not_true, Bool.or_false] at this
        simpa using this
    have key : ∀ q r, partsD (wkF o.toNat) = some q → partsD (wkF p.toNat) = some r → q.1 = 16#8 ∧ q.2.2.2.2 = 0 ∧ r.1 = 16#8 ∧ r.2.2.2.2 = 0 := by
      intro q r hq hr
      rw [hq, hr] at hn
      obtain ⟨mo, tno, lo, bo, eo⟩ := q
      obtain ⟨mp, tnp, lp, bp, ep⟩ := r
      simp only [nfB, Bool.or_eq_false_iff, Bool.not_eq_false', beq_iff_eq] at hn
      exact ⟨hn.2.2.1, hn.1, hn.2.2.2.1, hn.2.1⟩
    have pq := parts_ok (hR o.toNat)
    have pr := parts_ok (hR p.toNat)
    obtain ⟨k1, k2, k3, k4⟩ := key _ _ pq pr
    have ho := h16 o ⟨_, pq, k1, k2⟩
    have hp := h16 p ⟨_, pr, k3, k4⟩
    have h2 := List.all_eq_true.1 (List.all_eq_true.1 p16_pairs _ ho) _ hp
    rw [hn, Bool.false_or, List.any_eq_true] at h2
    obtain ⟨q, hq, hqe⟩ := h2
    simp only [Bool.and_eq_true, beq_iff_eq] at hqe
    have eo : BitVec.ofNat 16 q.1 = o := by rw [hqe.1]; simp
    have ep : BitVec.ofNat 16 q.2.1 = p := by rw [hqe.2]; simp
    have S0 := execFn_sound (P := Tryz.prog) (G := G0) (ann := fun _ => []) (TableOK.cons t_rof (TableOK.cons t_works TableOK.nil)) mixed Tryz.func4 (by kernel_rfl) 50
    have n0 := pair_no.mem hq t x y
    rw [eo, ep] at n0
    by_cases h1 : t = q.2.2.1
    · by_cases h3 : q.2.2.2 = t
      · have hpa := List.all_eq_true.1 pair_all q hq
        have e5 : (q.2.2.1 == q.2.2.2) = true := by rw [h3, h1]; simp
        rw [e5, Bool.not_true, Bool.false_or, Bool.or_eq_true] at hpa
        have S1 := execFn_sound (P := Tryz.prog) (G := G0) (ann := fun _ => []) tok_bk mixed Tryz.func4 (by kernel_rfl) 50
        rcases hpa with hpa | hpa
        · rw [List.any_eq_true] at hpa
          obtain ⟨r, hr, hre⟩ := hpa
          simp only [Bool.and_eq_true, beq_iff_eq] at hre
          have := real_true hr x y
          rw [hre.1.1, hre.1.2, hre.2, eo, ep, ← h1] at this
          exact S1.pt this
        · simp only [Bool.and_eq_true, beq_iff_eq] at hpa
          have := all_true x y
          have eo' : (64779#16 : BitVec 16) = o := by rw [← eo, hpa.1.1]
          have ep' : (64768#16 : BitVec 16) = p := by rw [← ep, hpa.1.2]
          rw [eo', ep', ← hpa.2, ← h1] at this
          exact S1.pt this
      · refine S0.pt (n0.trans ?_)
        have : (q.2.2.2 == t) = false := by simpa using h3
        rw [this]
        cases (t == q.2.2.1) <;> rfl
    · refine S0.pt (n0.trans ?_)
      have : (t == q.2.2.1) = false := by simpa using h1
      rw [this]; rfl
end Go.L23

/-
  Part of the proof; what its functions and lemmas say stands in the text.
-/
import Derived.Test.YtnbafdmlfpmfkaaGreatDoorQ23z
import Derived.Test.YtnbafdmlfpmfkaaGreatDoorQ23H
import Derived.Test.YtnbafdmlfpmfkaaGreatDoorW23a
set_option linter.unusedSimpArgs false
set_option linter.unusedVariables false
/-!
Layer 23: what becomes of bytes that are loaded, and what is stored.
-/
set_option maxRecDepth 100000
set_option maxHeartbeats 0
namespace Go.L23
open Go.Ev Go.Proofs Go.RowKit Go.Wh

def lsL : List Nat := [40, 41, 42, 43, 44, 45, 46, 47, 48, 49, 50, 51, 52, 53, 54, 55, 56, 57, 58, 59, 60, 61, 62, 64768, 64769, 64770, 64771, 64772, 64773, 64774, 64775, 64776, 64777, 64778, 64779, 64852, 64853, 64854, 64855, 64856, 64857, 64858, 64859, 64860, 64861]
theorem ls_all : insAll.all (fun i => i.bits == 0 || lsL.contains i.op) = true := by kernel_rfl
/-- How a row of the table looks. -/
def lookD : D → Bool
  | .agg [.u16 _, .c (.string _), .u8 _, .c (.slice none 0 0), .c (.slice none 0 0), .i .i64 _, .bool _] => true
  | .agg [.u16 _, .c (.string _), .u8 _, .c (.slice none 0 0), .sl8 _, .i .i64 _, .bool _] => true
  | .agg [.u16 _, .c (.string _), .u8 _, .sl8 _, .c (.slice none 0 0), .i .i64 _, .bool _] => true
  | .agg [.u16 _, .c (.string _), .u8 _, .sl8 _, .sl8 _, .i .i64 _, .bool _] => true
  | _ => false
theorem look_all : insAll.all (fun i => lookD (infoD i)) = true := by kernel_rfl
def bitsD : D → Int
  | .agg [_, _, _, _, _, .i .i64 b, _] => b
  | _ => 1
theorem bits_all : insAll.all (fun i => bitsD (infoD i) == i.bits) = true := by kernel_rfl
/-- A row without bits. -/
inductive NoBits : D → Prop
  | nn (o : BitVec 16) (s : ByteArray) (m : BitVec 8) (p : Bool) : NoBits (.agg [.u16 o, .c (.string s), .u8 m, .c (.slice none 0 0), .c (.slice none 0 0), .i .i64 0, .bool p])
  | ns (o : BitVec 16) (s : ByteArray) (m : BitVec 8) (t : List (BitVec 8)) (p : Bool) : NoBits (.agg [.u16 o, .c (.string s), .u8 m, .c (.slice none 0 0), .sl8 t, .i .i64 0, .bool p])
  | sn (o : BitVec 16) (s : ByteArray) (m : BitVec 8) (f : List (BitVec 8)) (p : Bool) : NoBits (.agg [.u16 o, .c (.string s), .u8 m, .sl8 f, .c (.slice none 0 0), .i .i64 0, .bool p])
  | ss (o : BitVec 16) (s : ByteArray) (m : BitVec 8) (f t : List (BitVec 8)) (p : Bool) : NoBits (.agg [.u16 o, .c (.string s), .u8 m, .sl8 f, .sl8 t, .i .i64 0, .bool p])
theorem no_bits {d : D} (h : lookD d = true) (hb : bitsD d = 0) : NoBits d := by
  unfold lookD at h
  split at h
  all_goals first | (simp only [bitsD] at hb; subst hb; constructor) | cases h
/-- What Of answers: a row of the list of loads and stores, a row without bits, or its error. -/
theorem of_cases (o : BitVec 16) : (∃ n ∈ lsL, o = BitVec.ofNat 16 n) ∨ (lsL.contains o.toNat = false ∧ ∃ d, NoBits d ∧ infF o.toNat = .tup [d, .i .i64 0] ∧ wkF o.toNat = .tup [weakI d, .i .i64 0]) ∨ (lsL.contains o.toNat = false ∧ infF o.toNat = .tup [noInfo, .i .i64 11] ∧ wkF o.toNat = .tup [noInfo, .i .i64 11]) := by
  cases hc : lsL.contains o.toNat with
  | true => left; exact ⟨o.toNat, by simpa using hc, by simp⟩
  | false =>
    right
    cases hl : lookO insAll o.toNat with
    | none => right; refine ⟨rfl, ?_, ?_⟩ <;> (first | unfold infF | unfold wkF) <;> rw [hl]
    | some i =>
      left
      obtain ⟨hm, ho⟩ := lookO_mem hl
      have h1 := List.all_eq_true.1 ls_all i hm
      rw [ho, hc, Bool.or_false] at h1
      refine ⟨rfl, infoD i, no_bits (List.all_eq_true.1 look_all i hm) ?_, by unfold infF; rw [hl], by unfold wkF; rw [hl]⟩
      have := List.all_eq_true.1 bits_all i hm
      rw [eq_of_beq this]; exact eq_of_beq h1
/-- An answer at one point. -/
noncomputable def wk (o : BitVec 16) (d : D) : Ev.Spec := guarded fun | [.u16 x] => some (x == o, d) | _ => none
theorem t_wk {f : Nat} (h : Snd f ofS) {o : BitVec 16} {d : D} (e : infF o.toNat = d) : Snd f (wk o d) := by
  refine Sound.guard h fun ds x hx => ?_
  split at hx
  · rename_i y
    simp only [Option.some.injEq, Prod.mk.injEq, beq_iff_eq] at hx
    obtain ⟨rfl, rfl⟩ := hx
    simp [ofS, joined, e]
  · cases hx
theorem t_wkR {f : Nat} (h : Snd f rofS) {o : BitVec 16} {d : D} (e : wkF o.toNat = d) : Snd f (wk o d) := by
  refine Sound.guard h fun ds x hx => ?_
  split at hx
  · rename_i y
    simp only [Option.some.injEq, Prod.mk.injEq, beq_iff_eq] at hx
    obtain ⟨rfl, rfl⟩ := hx
    simp [rofS, joined, e]
  · cases hx
theorem if_same {o : BitVec 16} {x : Option D} : (if (o == o) = true then x else none) = x := by simp
theorem fit_low {b : Int} (h : okW b = true) (x : BitVec 64) : x &&& maskF b ≤ maskF b := le_of_fit (fit_and h x)
theorem isF_low {b : Int} (h : okW b = true) (x : BitVec 64) : isF b (x &&& maskF b) = true := by
  simp [isF, h, fit_low h x]
theorem okS_low {b : Int} (h : okW b = true) (i : Int) (x : BitVec 64) : okS b i (x &&& maskF b) = okI b i := by
  simp [okS, fit_low h x]
theorem okE_low {b w : Int} (hb : okW b = true) (hw : okW w = true) (hle : b ≤ w) (x : BitVec 64) : okE b w (x &&& maskF b) = true := by
  have : ¬ w < b := by omega
  simp [okE, fit_and hb x, hw, this]

/-! loads -/
inductive LK
  | no | num (t : BitVec 8) (b w : Int) (s : Bool) | all | wide (w : Int) (s : Bool) | spl (b : Int) | zero (b : Int) | lane (b : Int)
def LK.ok : LK → Bool
  | .no => true
  | .num _ b w _ => okW b && okW w && decide (b ≤ w)
  | .all => true
  | .wide w _ => inW w
  | .spl b => okW b
  | .zero b => okW b
  | .lane b => okW b
def valD (t : BitVec 8) (x y : BitVec 64) (e : Int) : D := .tup [.agg [.u8 t, .u64 x, .u64 y], .i .i64 e]
abbrev R4 := BitVec 8 × BitVec 64 × BitVec 64 × Int
def resD (r : R4) : D := valD r.1 r.2.1 r.2.2.1 r.2.2.2
def ldR (k : LK) (w0 w1 b0 b1 : BitVec 64) (i : Int) : R4 := match k with
  | .no => (0#8, 0#64, 0#64, 2)
  | .num t b w s => (t, extF b w s (b0 &&& maskF b), 0#64, 0)
  | .all => (123#8, b0, b1, 0)
  | .wide w s => (123#8, (vecF (2 * w) (wideL extN w s false b0 b1)).1, (vecF (2 * w) (wideL extN w s false b0 b1)).2, 0)
  | .spl b => (123#8, splW b (b0 &&& maskF b), splW b (b0 &&& maskF b), 0)
  | .zero b => (123#8, b0 &&& maskF b, 0#64, 0)
  | .lane b => if okI b i = true then (123#8, (setF w0 w1 b i (b0 &&& maskF b)).1, (setF w0 w1 b i (b0 &&& maskF b)).2, 0) else (0#8, 0#64, 0#64, 2)
def orErr (e : Int) (d : D) : Option D := if (!(e == 0)) = true then some (valD 0#8 0#64 0#64 e) else some d
/-- What the program's text comes to, kind by kind. -/
def nfP (k : LK) (w0 w1 b0 b1 : BitVec 64) (i : Int) : Option D := match k with
  | .no => some (valD 0#8 0#64 0#64 2)
  | .num t b w true => some (valD t (extN b w true (b0 &&& maskF b)) 0#64 0)
  | .num t b _ false => some (valD t (b0 &&& maskF b) 0#64 0)
  | .all => some (valD 123#8 b0 b1 0)
  | .wide w s => some (valD 123#8 (ifF (inW w) (vecF (2 * w) (wideL extN w s false b0 b1)).1) (ifF (inW w) (vecF (2 * w) (wideL extN w s false b0 b1)).2) 0)
  | .spl b => some (valD 123#8 (ifF (isF b (b0 &&& maskF b)) (splW b (b0 &&& maskF b))) (ifF (isF b (b0 &&& maskF b)) (splW b (b0 &&& maskF b))) 0)
  | .zero b => some (valD 123#8 (b0 &&& maskF b) 0#64 0)
  | .lane b => orErr (errF (okS b i (b0 &&& maskF b))) (valD 123#8 (ifF (okS b i (b0 &&& maskF b)) (setF w0 w1 b i (b0 &&& maskF b)).1) (ifF (okS b i (b0 &&& maskF b)) (setF w0 w1 b i (b0 &&& maskF b)).2) 0)
/-- What the document's text comes to. -/
def nfR (k : LK) (w0 w1 b0 b1 : BitVec 64) (i : Int) : Option D := match k with
  | .no => some (valD 0#8 0#64 0#64 2)
  | .num t b w s => orErr (extR b w s (b0 &&& maskF b)) (valD t (extN b w s (b0 &&& maskF b)) 0#64 0)
  | .all => some (valD 123#8 b0 b1 0)
  | .wide w s => some (valD 123#8 (vecF (2 * w) (wideL extN w s false b0 b1)).1 (vecF (2 * w) (wideL extN w s false b0 b1)).2 0)
  | .spl b => orErr (errF (isF b (b0 &&& maskF b))) (valD 123#8 (ifF (isF b (b0 &&& maskF b)) (splW b (b0 &&& maskF b))) (ifF (isF b (b0 &&& maskF b)) (splW b (b0 &&& maskF b))) 0)
  | .zero b => some (valD 123#8 (b0 &&& maskF b) 0#64 0)
  | .lane b => orErr (errF (okS b i (b0 &&& maskF b))) (valD 123#8 (ifF (okS b i (b0 &&& maskF b)) (setF w0 w1 b i (b0 &&& maskF b)).1) (ifF (okS b i (b0 &&& maskF b)) (setF w0 w1 b i (b0 &&& maskF b)).2) 0)
theorem nfP_eq {k : LK} (h : k.ok = true) (w0 w1 b0 b1 : BitVec 64) (i : Int) : nfP k w0 w1 b0 b1 i = some (resD (ldR k w0 w1 b0 b1 i)) := by
  cases k with
  | no => rfl
  | num t b w s =>
    simp only [LK.ok, Bool.and_eq_true, decide_eq_true_eq] at h
    have e := okE_low h.1.1 h.1.2 h.2 b0
    cases s
    · rfl
    · simp only [nfP, ldR, extN, e]; rfl
  | all => rfl
  | wide w s =>
    have h' : inW w = true := h
    simp only [nfP, ldR, h']; rfl
  | spl b =>
    have h' : okW b = true := h
    simp only [nfP, ldR, isF_low h']; rfl
  | zero b => rfl
  | lane b =>
    have h' : okW b = true := h
    simp only [nfP, ldR, okS_low h']
    cases okI b i <;> rfl
theorem nfR_eq {k : LK} (h : k.ok = true) (w0 w1 b0 b1 : BitVec 64) (i : Int) : nfR k w0 w1 b0 b1 i = some (resD (ldR k w0 w1 b0 b1 i)) := by
  cases k with
  | no => rfl
  | num t b w s =>
    simp only [LK.ok, Bool.and_eq_true, decide_eq_true_eq] at h
    have e := okE_low h.1.1 h.1.2 h.2 b0
    simp only [nfR, ldR, extN, extR, e]; rfl
  | all => rfl
  | wide w s => rfl
  | spl b =>
    have h' : okW b = true := h
    simp only [nfR, ldR, isF_low h']; rfl
  | zero b => rfl
  | lane b =>
    have h' : okW b = true := h
    simp only [nfR, ldR, okS_low h']
    cases okI b i <;> rfl
def ldL : List (Nat × LK) := [(40, .num 127#8 32 32 false), (41, .num 126#8 64 64 false), (42, .num 125#8 32 32 false), (43, .num 124#8 64 64 false), (44, .num 127#8 8 32 true), (45, .num 127#8 8 32 false), (46, .num 127#8 16 32 true), (47, .num 127#8 16 32 false), (48, .num 126#8 8 64 true), (49, .num 126#8 8 64 false), (50, .num 126#8 16 64 true), (51, .num 126#8 16 64 false), (52, .num 126#8 32 64 true), (53, .num 126#8 32 64 false), (54, .no), (55, .no), (56, .no), (57, .no), (58, .no), (59, .no), (60, .no), (61, .no), (62, .no), (64768, .all), (64769, .wide 8 true), (64770, .wide 8 false), (64771, .wide 16 true), (64772, .wide 16 false), (64773, .wide 32 true), (64774, .wide 32 false), (64775, .spl 8), (64776, .spl 16), (64777, .spl 32), (64778, .spl 64), (64779, .no), (64852, .lane 8), (64853, .lane 16), (64854, .lane 32), (64855, .lane 64), (64856, .no), (64857, .no), (64858, .no), (64859, .no), (64860, .zero 32), (64861, .zero 64)]
theorem ld_ok : ldL.all (fun p => p.2.ok) = true := by kernel_rfl
theorem ld_has : lsL.all (fun n => ldL.any (fun p => p.1 == n)) = true := by kernel_rfl
theorem ld_in : ldL.all (fun p => lsL.contains p.1) = true := by kernel_rfl
theorem ld_lt : lsL.all (fun n => decide (n < 65536)) = true := by kernel_rfl
def lookP {β : Type} (z : β) : List (Nat × β) → Nat → β
  | [], _ => z
  | (k, b) :: l, n => if (n == k) = true then b else lookP z l n
theorem lookP_no {β : Type} {z : β} : ∀ {l : List (Nat × β)} {n : Nat}, (∀ p ∈ l, p.1 ≠ n) → lookP z l n = z
  | [], _, _ => rfl
  | (k, b) :: l, n, h => by
    have h0 : (n == k) = false := by simpa using fun e : n = k => h (k, b) List.mem_cons_self e.symm
    simp only [lookP, h0, Bool.false_eq_true, if_false]
    exact lookP_no fun p hp => h p (List.mem_cons_of_mem _ hp)
/-- What kind of load a number is. -/
def ldK (n : Nat) : LK := lookP .no ldL n
theorem ld_key : ldL.map (fun p => p.1) = lsL := by kernel_rfl
theorem lookP_in {β : Type} {z : β} : ∀ {l : List (Nat × β)} {n : Nat}, n ∈ l.map (fun p => p.1) → (n, lookP z l n) ∈ l
  | (k, b) :: l, n, h => by
    simp only [lookP]
    split
    · rename_i e
      rw [eq_of_beq e]; exact List.mem_cons_self
    · rename_i e
      have : n ∈ l.map (fun p => p.1) := by
        rcases List.mem_cons.1 h with rfl | h
        · exact absurd (beq_self_eq_true _) e
        · exact h
      exact List.mem_cons_of_mem _ (lookP_in this)
theorem key_no {β : Type} {z : β} {l : List (Nat × β)} (hk : l.map (fun p => p.1) = lsL) {n : Nat} (h : lsL.contains n = false) : lookP z l n = z := by
  refine lookP_no fun p hp e => ?_
  have : n ∈ lsL := by rw [← hk, ← e]; exact List.mem_map.2 ⟨p, hp, rfl⟩
  rw [show lsL.contains n = true by simpa using this] at h
  cases h
theorem ls_nat {n : Nat} (h : n ∈ lsL) : (BitVec.ofNat 16 n).toNat = n := by
  have := of_decide_eq_true (List.all_eq_true.1 ld_lt n h)
  simp only [BitVec.toNat_ofNat]; omega
noncomputable abbrev plT (s : Ev.Spec) : List (Nat × Ev.Spec) := [(18, s), (24, X24), (27, X27), (28, X28), (29, ConG extN extR), (30, VwideS extN), (31, SplS), (32, SetS)]
theorem ok_plT {s : Ev.Spec} (h : Snd 18 s) : Tok (plT s) := TableOK.cons h (TableOK.cons t_X24 (TableOK.cons t_X27 (TableOK.cons t_X28 (TableOK.cons c_Ext (TableOK.cons t_vWide (TableOK.cons Spl23 (TableOK.cons Set15 TableOK.nil)))))))
noncomputable abbrev Xpl (s : Ev.Spec) : Ev.Spec := ex (plT s) (fun _ => []) Tryz.f10
theorem t_Xpl {s : Ev.Spec} (h : Snd 18 s) : Snd 10 (Xpl s) := execFn_sound (ann := fun _ => []) (ok_plT h) mixed Tryz.func10 (by kernel_rfl) 50
noncomputable abbrev rlT (s : Ev.Spec) : List (Nat × Ev.Spec) := [(13, s), (25, X25), (33, X33), (34, X34), (35, spreadS), (36, X36), (37, X37), (38, X38), (39, SplS), (40, X40), (41, SetS), (42, ConG extN extR), (43, X43)]
theorem ok_rlT {s : Ev.Spec} (h : Snd 13 s) : Tok (rlT s) := TableOK.cons h (TableOK.cons t_X25 (TableOK.cons t_X33 (TableOK.cons t_X34 (TableOK.cons t_spread (TableOK.cons t_X36 (TableOK.cons t_X37 (TableOK.cons t_X38 (TableOK.cons Spl32 (TableOK.cons t_X40 (TableOK.cons Set16 (TableOK.cons c_rExt (TableOK.cons t_X43 TableOK.nil))))))))))))
noncomputable abbrev Xrl (s : Ev.Spec) : Ev.Spec := ex (rlT s) (fun _ => []) Tryz.f11
theorem t_Xrl {s : Ev.Spec} (h : Snd 13 s) : Snd 11 (Xrl s) := execFn_sound (ann := fun _ => []) (ok_rlT h) mixed Tryz.func11 (by kernel_rfl) 50
theorem pl_at : AllP (fun p : Nat × LK => ∀ (w0 w1 b0 b1 : BitVec 64) (i : Int), Xpl ofS [.u16 (BitVec.ofNat 16 p.1), vec w0 w1, vec b0 b1, .i .i64 i] some = nfP p.2 w0 w1 b0 b1 i) ldL := by
  refine AllP.cons ?_ (AllP.cons ?_ (AllP.cons ?_ (AllP.cons ?_ (AllP.cons ?_ (AllP.cons ?_ (AllP.cons ?_ (AllP.cons ?_ (AllP.cons ?_ (AllP.cons ?_ (AllP.cons ?_ (AllP.cons ?_ (AllP.cons ?_ (AllP.cons ?_ (AllP.cons ?_ (AllP.cons ?_ (AllP.cons ?_ (AllP.cons ?_ (AllP.cons ?_ (AllP.cons ?_ (AllP.cons ?_ (AllP.cons ?_ (AllP.cons ?_ (AllP.cons ?_ (AllP.cons ?_ (AllP.cons ?_ (AllP.cons ?_ (AllP.cons ?_ (AllP.cons ?_ (AllP.cons ?_ (AllP.cons ?_ (AllP.cons ?_ (AllP.cons ?_ (AllP.cons ?_ (AllP.cons ?_ (AllP.cons ?_ (AllP.cons ?_ (AllP.cons ?_ (AllP.cons ?_ (AllP.cons ?_ (AllP.cons ?_ (AllP.cons ?_ (AllP.cons ?_ (AllP.cons ?_ (AllP.cons ?_ (AllP.nil))))))))))))))))))))))))))))))))))))))))))))) <;> (intro w0 w1 b0 b1 i; as_aux_lemma => kernel_rfl)
theorem pl_nn (o a : BitVec 16) (s : ByteArray) (m : BitVec 8) (p : Bool) (w0 w1 b0 b1 : BitVec 64) (i : Int) : Xpl (wk o (.tup [.agg [.u16 a, .c (.string s), .u8 m, .c (.slice none 0 0), .c (.slice none 0 0), .i .i64 0, .bool p], .i .i64 0])) [.u16 o, vec w0 w1, vec b0 b1, .i .i64 i] some = if (o == o) = true then some (valD 0#8 0#64 0#64 2) else none := by kernel_rfl
theorem pl_ns (o a : BitVec 16) (s : ByteArray) (m : BitVec 8) (t : List (BitVec 8)) (p : Bool) (w0 w1 b0 b1 : BitVec 64) (i : Int) : Xpl (wk o (.tup [.agg [.u16 a, .c (.string s), .u8 m, .c (.slice none 0 0), .sl8 t, .i .i64 0, .bool p], .i .i64 0])) [.u16 o, vec w0 w1, vec b0 b1, .i .i64 i] some = if (o == o) = true then some (valD 0#8 0#64 0#64 2) else none := by kernel_rfl
theorem pl_sn (o a : BitVec 16) (s : ByteArray) (m : BitVec 8) (f : List (BitVec 8)) (p : Bool) (w0 w1 b0 b1 : BitVec 64) (i : Int) : Xpl (wk o (.tup [.agg [.u16 a, .c (.string s), .u8 m, .sl8 f, .c (.slice none 0 0), .i .i64 0, .bool p], .i .i64 0])) [.u16 o, vec w0 w1, vec b0 b1, .i .i64 i] some = if (o == o) = true then some (valD 0#8 0#64 0#64 2) else none := by kernel_rfl
theorem pl_ss (o a : BitVec 16) (s : ByteArray) (m : BitVec 8) (f : List (BitVec 8)) (t : List (BitVec 8)) (p : Bool) (w0 w1 b0 b1 : BitVec 64) (i : Int) : Xpl (wk o (.tup [.agg [.u16 a, .c (.string s), .u8 m, .sl8 f, .sl8 t, .i .i64 0, .bool p], .i .i64 0])) [.u16 o, vec w0 w1, vec b0 b1, .i .i64 i] some = if (o == o) = true then some (valD 0#8 0#64 0#64 2) else none := by kernel_rfl
theorem pl_er (o : BitVec 16) (w0 w1 b0 b1 : BitVec 64) (i : Int) : Xpl (wk o (.tup [noInfo, .i .i64 11])) [.u16 o, vec w0 w1, vec b0 b1, .i .i64 i] some = if (o == o) = true then some (valD 0#8 0#64 0#64 2) else none := by kernel_rfl
theorem rl_at : AllP (fun p : Nat × LK => ∀ (w0 w1 b0 b1 : BitVec 64) (i : Int), Xrl rofS [.u16 (BitVec.ofNat 16 p.1), vec w0 w1, vec b0 b1, .i .i64 i] some = nfR p.2 w0 w1 b0 b1 i) ldL := by
  refine AllP.cons ?_ (AllP.cons ?_ (AllP.cons ?_ (AllP.cons ?_ (AllP.cons ?_ (AllP.cons ?_ (AllP.cons ?_ (AllP.cons ?_ (AllP.cons ?_ (AllP.cons ?_ (AllP.cons ?_ (AllP.cons ?_ (AllP.cons ?_ (AllP.cons ?_ (AllP.cons ?_ (AllP.cons ?_ (AllP.cons ?_ (AllP.cons ?_ (AllP.cons ?_ (AllP.cons ?_ (AllP.cons ?_ (AllP.cons ?_ (AllP.cons ?_ (AllP.cons ?_ (AllP.cons ?_ (AllP.cons ?_ (AllP.cons ?_ (AllP.cons ?_ (AllP.cons ?_ (AllP.cons ?_ (AllP.cons ?_ (AllP.cons ?_ (AllP.cons ?_ (AllP.cons ?_ (AllP.cons ?_ (AllP.cons ?_ (AllP.cons ?_ (AllP.cons ?_ (AllP.cons ?_ (AllP.cons ?_ (AllP.cons ?_ (AllP.cons ?_ (AllP.cons ?_ (AllP.cons ?_ (AllP.cons ?_ (AllP.nil))))))))))))))))))))))))))))))))))))))))))))) <;> (intro w0 w1 b0 b1 i; as_aux_lemma => kernel_rfl)
theorem rl_nn (o a : BitVec 16) (s : ByteArray) (m : BitVec 8) (p : Bool) (w0 w1 b0 b1 : BitVec 64) (i : Int) : Xrl (wk o (.tup [.agg [.u16 a, .c (.string s), .u8 m, .c (.slice none 0 0), .c (.slice none 0 0), .i .i64 0, .bool p], .i .i64 0])) [.u16 o, vec w0 w1, vec b0 b1, .i .i64 i] some = if (o == o) = true then some (valD 0#8 0#64 0#64 2) else none := by kernel_rfl
theorem rl_xs (o a : BitVec 16) (s : ByteArray) (m : BitVec 8) (t : List (BitVec 8)) (p : Bool) (w0 w1 b0 b1 : BitVec 64) (i : Int) : Xrl (wk o (.tup [.agg [.u16 a, .c (.string s), .u8 m, .xs, .sl8 t, .i .i64 0, .bool p], .i .i64 0])) [.u16 o, vec w0 w1, vec b0 b1, .i .i64 i] some = if (o == o) = true then some (valD 0#8 0#64 0#64 2) else none := by kernel_rfl
theorem rl_sn (o a : BitVec 16) (s : ByteArray) (m : BitVec 8) (f : List (BitVec 8)) (p : Bool) (w0 w1 b0 b1 : BitVec 64) (i : Int) : Xrl (wk o (.tup [.agg [.u16 a, .c (.string s), .u8 m, .sl8 f, .c (.slice none 0 0), .i .i64 0, .bool p], .i .i64 0])) [.u16 o, vec w0 w1, vec b0 b1, .i .i64 i] some = if (o == o) = true then some (valD 0#8 0#64 0#64 2) else none := by kernel_rfl
theorem rl_er (o : BitVec 16) (w0 w1 b0 b1 : BitVec 64) (i : Int) : Xrl (wk o (.tup [noInfo, .i .i64 11])) [.u16 o, vec w0 w1, vec b0 b1, .i .i64 i] some = if (o == o) = true then some (valD 0#8 0#64 0#64 2) else none := by kernel_rfl
noncomputable def LoadG (r : Nat → BitVec 64 → BitVec 64 → BitVec 64 → BitVec 64 → Int → R4) : Ev.Spec := joined fun | [.u16 o, .agg [.u64 w0, .u64 w1], .agg [.u64 b0, .u64 b1], .i .i64 i] => some (resD (r o.toNat w0 w1 b0 b1 i)) | _ => none
noncomputable abbrev LoadS : Ev.Spec := LoadG fun n => ldR (ldK n)
theorem t_pl : Snd 10 LoadS := by
  refine Sound.of_pt fun ds d h => ?_
  split at h
  · rename_i o w0 w1 b0 b1 i
    cases h
    show Pt Tryz.prog G0 10 _ (resD (ldR (ldK o.toNat) w0 w1 b0 b1 i))
    rcases of_cases o with ⟨n, hn, rfl⟩ | ⟨hc, d, hd, e, e'⟩ | ⟨hc, e, e'⟩
    · refine (t_Xpl t_of).pt ?_
      have hk : (n, ldK n) ∈ ldL := lookP_in (by rw [ld_key]; exact hn)
      rw [ls_nat hn]
      exact (pl_at.mem hk w0 w1 b0 b1 i).trans (nfP_eq (List.all_eq_true.1 ld_ok _ hk) w0 w1 b0 b1 i)
    · have hz : ldK o.toNat = .no := key_no ld_key hc
      rw [hz]
      refine (t_Xpl (t_wk t_of e)).pt ?_
      cases hd with
      | nn a s m p => exact (pl_nn o a s m p w0 w1 b0 b1 i).trans if_same
      | ns a s m t p => exact (pl_ns o a s m t p w0 w1 b0 b1 i).trans if_same
      | sn a s m f p => exact (pl_sn o a s m f p w0 w1 b0 b1 i).trans if_same
      | ss a s m f t p => exact (pl_ss o a s m f t p w0 w1 b0 b1 i).trans if_same
    · have hz : ldK o.toNat = .no := key_no ld_key hc
      rw [hz]
      exact (t_Xpl (t_wk t_of e)).pt ((pl_er o w0 w1 b0 b1 i).trans if_same)
  · cases h
theorem t_rl : Snd 11 LoadS := by
  refine Sound.of_pt fun ds d h => ?_
  split at h
  · rename_i o w0 w1 b0 b1 i
    cases h
    show Pt Tryz.prog G0 11 _ (resD (ldR (ldK o.toNat) w0 w1 b0 b1 i))
    rcases of_cases o with ⟨n, hn, rfl⟩ | ⟨hc, d, hd, e, e'⟩ | ⟨hc, e, e'⟩
    · refine (t_Xrl t_rof).pt ?_
      have hk : (n, ldK n) ∈ ldL := lookP_in (by rw [ld_key]; exact hn)
      rw [ls_nat hn]
      exact (rl_at.mem hk w0 w1 b0 b1 i).trans (nfR_eq (List.all_eq_true.1 ld_ok _ hk) w0 w1 b0 b1 i)
    · have hz : ldK o.toNat = .no := key_no ld_key hc
      rw [hz]
      refine (t_Xrl (t_wkR t_rof e')).pt ?_
      cases hd with
      | nn a s m p => exact (rl_nn o a s m p w0 w1 b0 b1 i).trans if_same
      | ns a s m t p => exact (rl_xs o a s m t p w0 w1 b0 b1 i).trans if_same
      | sn a s m f p => exact (rl_sn o a s m f p w0 w1 b0 b1 i).trans if_same
      | ss a s m f t p => exact (rl_xs o a s m t p w0 w1 b0 b1 i).trans if_same
    · have hz : ldK o.toNat = .no := key_no ld_key hc
      rw [hz]
      exact (t_Xrl (t_wkR t_rof e')).pt ((rl_er o w0 w1 b0 b1 i).trans if_same)
  · cases h
end Go.L23

/-
  Part of the proof; what its functions and lemmas say stands in the text.
-/
import Derived.Test.YtnbafdmlfpmfkaaGreatDoorN23ba
import Derived.Test.YtnbafdmlfpmfkaaGreatDoorN23bb
import Derived.Test.YtnbafdmlfpmfkaaGreatDoorN23bc
import Derived.Test.YtnbafdmlfpmfkaaGreatDoorN23bd
import Derived.Test.YtnbafdmlfpmfkaaGreatDoorN23N
set_option linter.unusedSimpArgs false
set_option linter.unusedVariables false
set_option maxRecDepth 100000
set_option maxHeartbeats 0
namespace Go.L23
open Go.Ev Go.Proofs Go.RowKit Go.Wh
def nmOf (n : Nat) : List UInt8 := match lookO insAll n with | some i => i.name | none => []
def bitsOf (n : Nat) : Int := match lookO insAll n with | some i => i.bits | none => 0
def immOf (n : Nat) : Nat := match lookO insAll n with | some i => i.imm | none => 0
abbrev OpT := Nat × List (BitVec 8) × BitVec 8
def InfOK (c : OpT) : Prop := infF c.1 = infD (BitVec.ofNat 16 c.1) (nmOf c.1) (BitVec.ofNat 8 (immOf c.1)) c.2.1 c.2.2 (bitsOf c.1)
abbrev Quad := Nat × BitVec 32 × List (BitVec 8) × BitVec 8
def qK (r : RowK) : Quad := (r.n, r.b, r.fr, r.t)
def qV (r : RowV) : Quad := (r.n, r.b, r.fr, r.t)
def GoodQ (q : Quad) : Prop := DoPt q.1 q.2.1 q.2.2.1 q.2.2.2 ∧ InfOK (q.1, q.2.2.1, q.2.2.2)
theorem good_rows {l : List RowK} (h : ∀ m X Y, AllP (RowOK (L0 m) X Y) l) (hi : AllP (fun r : RowK => InfOK (r.n, r.fr, r.t)) l) (hc : l.all chkR = true) : ∀ q ∈ l.map qK, GoodQ q := fun q hq => by
 obtain ⟨r, hr, rfl⟩ := List.mem_map.1 hq
 exact ⟨do_row (fun m X Y => (h m X Y).mem hr) (List.all_eq_true.1 hc r hr), hi.mem hr⟩
theorem inf0 : AllP (fun r : RowK => InfOK (r.n, r.fr, r.t)) rowsK0 := by
 refine AllP.cons ?_ (AllP.cons ?_ (AllP.cons ?_ (AllP.cons ?_ (AllP.cons ?_ (AllP.cons ?_ (AllP.cons ?_ (AllP.cons ?_ (AllP.cons ?_ (AllP.cons ?_ (AllP.cons ?_ (AllP.cons ?_ (AllP.cons ?_ (AllP.cons ?_ (AllP.cons ?_ (AllP.cons ?_ (AllP.cons ?_ (AllP.cons ?_ (AllP.cons ?_ (AllP.cons ?_ (AllP.cons ?_ (AllP.cons ?_ (AllP.cons ?_ (AllP.cons ?_ (AllP.cons ?_ (AllP.cons ?_ (AllP.cons ?_ (AllP.cons ?_ (AllP.cons ?_ (AllP.cons ?_ (AllP.cons ?_ (AllP.cons ?_ (AllP.cons ?_ (AllP.cons ?_ (AllP.cons ?_ (AllP.cons ?_ (AllP.cons ?_ (AllP.cons ?_ (AllP.cons ?_ (AllP.cons ?_ (AllP.cons ?_ (AllP.cons ?_ (AllP.cons ?_ (AllP.cons ?_ (AllP.cons ?_ (AllP.nil))))))))))))))))))))))))))))))))))))))))))))) <;> (unfold InfOK; as_aux_lemma => kernel_rfl)
theorem inf1 : AllP (fun r : RowK => InfOK (r.n, r.fr, r.t)) rowsK1 := by
 refine AllP.cons ?_ (AllP.cons ?_ (AllP.cons ?_ (AllP.cons ?_ (AllP.cons ?_ (AllP.cons ?_ (AllP.cons ?_ (AllP.cons ?_ (AllP.cons ?_ (AllP.cons ?_ (AllP.cons ?_ (AllP.cons ?_ (AllP.cons ?_ (AllP.cons ?_ (AllP.cons ?_ (AllP.cons ?_ (AllP.cons ?_ (AllP.cons ?_ (AllP.cons ?_ (AllP.cons ?_ (AllP.cons ?_ (AllP.cons ?_ (AllP.cons ?_ (AllP.cons ?_ (AllP.cons ?_ (AllP.cons ?_ (AllP.cons ?_ (AllP.cons ?_ (AllP.cons ?_ (AllP.cons ?_ (AllP.cons ?_ (AllP.cons ?_ (AllP.cons ?_ (AllP.cons ?_ (AllP.cons ?_ (AllP.cons ?_ (AllP.cons ?_ (AllP.cons ?_ (AllP.cons ?_ (AllP.cons ?_ (AllP.cons ?_ (AllP.cons ?_ (AllP.cons ?_ (AllP.cons ?_ (AllP.cons ?_ (AllP.nil))))))))))))))))))))))))))))))))))))))))))))) <;> (unfold InfOK; as_aux_lemma => kernel_rfl)
theorem inf2 : AllP (fun r : RowK => InfOK (r.n, r.fr, r.t)) rowsK2 := by
 refine AllP.cons ?_ (AllP.cons ?_ (AllP.cons ?_ (AllP.cons ?_ (AllP.cons ?_ (AllP.cons ?_ (AllP.cons ?_ (AllP.cons ?_ (AllP.cons ?_ (AllP.cons ?_ (AllP.cons ?_ (AllP.cons ?_ (AllP.cons ?_ (AllP.cons ?_ (AllP.cons ?_ (AllP.cons ?_ (AllP.cons ?_ (AllP.cons ?_ (AllP.cons ?_ (AllP.cons ?_ (AllP.cons ?_ (AllP.cons ?_ (AllP.cons ?_ (AllP.cons ?_ (AllP.cons ?_ (AllP.cons ?_ (AllP.cons ?_ (AllP.cons ?_ (AllP.cons ?_ (AllP.cons ?_ (AllP.cons ?_ (AllP.cons ?_ (AllP.cons ?_ (AllP.cons ?_ (AllP.cons ?_ (AllP.cons ?_ (AllP.cons ?_ (AllP.cons ?_ (AllP.cons ?_ (AllP.cons ?_ (AllP.cons ?_ (AllP.cons ?_ (AllP.cons ?_ (AllP.cons ?_ (AllP.cons ?_ (AllP.nil))))))))))))))))))))))))))))))))))))))))))))) <;> (unfold InfOK; as_aux_lemma => kernel_rfl)
theorem inf3 : AllP (fun r : RowK => InfOK (r.n, r.fr, r.t)) rowsK3 := by
 refine AllP.cons ?_ (AllP.cons ?_ (AllP.cons ?_ (AllP.cons ?_ (AllP.cons ?_ (AllP.cons ?_ (AllP.cons ?_ (AllP.cons ?_ (AllP.cons ?_ (AllP.cons ?_ (AllP.cons ?_ (AllP.cons ?_ (AllP.cons ?_ (AllP.cons ?_ (AllP.cons ?_ (AllP.cons ?_ (AllP.cons ?_ (AllP.cons ?_ (AllP.cons ?_ (AllP.cons ?_ (AllP.cons ?_ (AllP.cons ?_ (AllP.cons ?_ (AllP.cons ?_ (AllP.cons ?_ (AllP.cons ?_ (AllP.cons ?_ (AllP.cons ?_ (AllP.cons ?_ (AllP.cons ?_ (AllP.cons ?_ (AllP.cons ?_ (AllP.cons ?_ (AllP.cons ?_ (AllP.cons ?_ (AllP.cons ?_ (AllP.cons ?_ (AllP.cons ?_ (AllP.cons ?_ (AllP.cons ?_ (AllP.cons ?_ (AllP.cons ?_ (AllP.cons ?_ (AllP.cons ?_ (AllP.cons ?_ (AllP.nil))))))))))))))))))))))))))))))))))))))))))))) <;> (unfold InfOK; as_aux_lemma => kernel_rfl)
theorem inf4 : AllP (fun r : RowK => InfOK (r.n, r.fr, r.t)) rowsK4 := by
 refine AllP.cons ?_ (AllP.cons ?_ (AllP.cons ?_ (AllP.cons ?_ (AllP.cons ?_ (AllP.cons ?_ (AllP.cons ?_ (AllP.cons ?_ (AllP.cons ?_ (AllP.cons ?_ (AllP.cons ?_ (AllP.cons ?_ (AllP.cons ?_ (AllP.cons ?_ (AllP.cons ?_ (AllP.cons ?_ (AllP.cons ?_ (AllP.cons ?_ (AllP.cons ?_ (AllP.cons ?_ (AllP.cons ?_ (AllP.cons ?_ (AllP.cons ?_ (AllP.cons ?_ (AllP.cons ?_ (AllP.cons ?_ (AllP.cons ?_ (AllP.cons ?_ (AllP.cons ?_ (AllP.cons ?_ (AllP.cons ?_ (AllP.cons ?_ (AllP.cons ?_ (AllP.cons ?_ (AllP.cons ?_ (AllP.cons ?_ (AllP.cons ?_ (AllP.cons ?_ (AllP.cons ?_ (AllP.cons ?_ (AllP.cons ?_ (AllP.cons ?_ (AllP.cons ?_ (AllP.cons ?_ (AllP.cons ?_ (AllP.nil))))))))))))))))))))))))))))))))))))))))))))) <;> (unfold InfOK; as_aux_lemma => kernel_rfl)
theorem inf5 : AllP (fun r : RowK => InfOK (r.n, r.fr, r.t)) rowsK5 := by
 refine AllP.cons ?_ (AllP.cons ?_ (AllP.cons ?_ (AllP.cons ?_ (AllP.cons ?_ (AllP.cons ?_ (AllP.cons ?_ (AllP.cons ?_ (AllP.cons ?_ (AllP.cons ?_ (AllP.cons ?_ (AllP.cons ?_ (AllP.cons ?_ (AllP.cons ?_ (AllP.cons ?_ (AllP.cons ?_ (AllP.cons ?_ (AllP.cons ?_ (AllP.cons ?_ (AllP.cons ?_ (AllP.cons ?_ (AllP.cons ?_ (AllP.cons ?_ (AllP.cons ?_ (AllP.cons ?_ (AllP.cons ?_ (AllP.cons ?_ (AllP.cons ?_ (AllP.cons ?_ (AllP.cons ?_ (AllP.cons ?_ (AllP.cons ?_ (AllP.cons ?_ (AllP.cons ?_ (AllP.cons ?_ (AllP.cons ?_ (AllP.cons ?_ (AllP.cons ?_ (AllP.cons ?_ (AllP.cons ?_ (AllP.cons ?_ (AllP.cons ?_ (AllP.cons ?_ (AllP.cons ?_ (AllP.cons ?_ (AllP.nil))))))))))))))))))))))))))))))))))))))))))))) <;> (unfold InfOK; as_aux_lemma => kernel_rfl)
theorem inf6 : AllP (fun r : RowK => InfOK (r.n, r.fr, r.t)) rowsK6 := by
 refine AllP.cons ?_ (AllP.cons ?_ (AllP.cons ?_ (AllP.cons ?_ (AllP.cons ?_ (AllP.cons ?_ (AllP.cons ?_ (AllP.cons ?_ (AllP.cons ?_ (AllP.cons ?_ (AllP.cons ?_ (AllP.cons ?_ (AllP.cons ?_ (AllP.cons ?_ (AllP.cons ?_ (AllP.cons ?_ (AllP.cons ?_ (AllP.cons ?_ (AllP.cons ?_ (AllP.cons ?_ (AllP.cons ?_ (AllP.cons ?_ (AllP.cons ?_ (AllP.cons ?_ (AllP.cons ?_ (AllP.cons ?_ (AllP.cons ?_ (AllP.cons ?_ (AllP.cons ?_ (AllP.cons ?_ (AllP.cons ?_ (AllP.cons ?_ (AllP.cons ?_ (AllP.cons ?_ (AllP.cons ?_ (AllP.cons ?_ (AllP.cons ?_ (AllP.cons ?_ (AllP.cons ?_ (AllP.cons ?_ (AllP.cons ?_ (AllP.cons ?_ (AllP.cons ?_ (AllP.cons ?_ (AllP.cons ?_ (AllP.nil))))))))))))))))))))))))))))))))))))))))))))) <;> (unfold InfOK; as_aux_lemma => kernel_rfl)
theorem inf7 : AllP (fun r : RowK => InfOK (r.n, r.fr, r.t)) rowsK7 := by
 refine AllP.cons ?_ (AllP.cons ?_ (AllP.cons ?_ (AllP.cons ?_ (AllP.cons ?_ (AllP.cons ?_ (AllP.cons ?_ (AllP.cons ?_ (AllP.cons ?_ (AllP.cons ?_ (AllP.cons ?_ (AllP.cons ?_ (AllP.cons ?_ (AllP.cons ?_ (AllP.cons ?_ (AllP.cons ?_ (AllP.cons ?_ (AllP.cons ?_ (AllP.nil)))))))))))))))))) <;> (unfold InfOK; as_aux_lemma => kernel_rfl)
theorem infV : AllP (fun r : RowV => InfOK (r.n, r.fr, r.t)) rowsV := by
 refine AllP.cons ?_ (AllP.cons ?_ (AllP.cons ?_ (AllP.cons ?_ (AllP.cons ?_ (AllP.cons ?_ (AllP.cons ?_ (AllP.cons ?_ (AllP.cons ?_ (AllP.cons ?_ (AllP.cons ?_ (AllP.cons ?_ (AllP.cons ?_ (AllP.nil))))))))))))) <;> (unfold InfOK; as_aux_lemma => kernel_rfl)
theorem infT : AllP (fun r : RowT => InfOK (r.n, r.fr, r.t)) rowsT := by
 refine AllP.cons ?_ (AllP.cons ?_ (AllP.cons ?_ (AllP.cons ?_ (AllP.cons ?_ (AllP.cons ?_ (AllP.cons ?_ (AllP.cons ?_ (AllP.cons ?_ (AllP.cons ?_ (AllP.cons ?_ (AllP.cons ?_ (AllP.cons ?_ (AllP.cons ?_ (AllP.cons ?_ (AllP.cons ?_ (AllP.nil)))))))))))))))) <;> (unfold InfOK; as_aux_lemma => kernel_rfl)
def quadsL : List Quad := rowsK0.map qK ++ (rowsK1.map qK ++ (rowsK2.map qK ++ (rowsK3.map qK ++ (rowsK4.map qK ++ (rowsK5.map qK ++ (rowsK6.map qK ++ (rowsK7.map qK ++ rowsV.map qV)))))))
theorem quads_ok : ∀ q ∈ quadsL, GoodQ q := by
 intro q h
 unfold quadsL at h
 rcases List.mem_append.1 h with h | h
 ·exact good_rows (fun m X Y => rowK0 (L0 m) X Y) inf0 (by decide +kernel) q h
 rcases List.mem_append.1 h with h | h
 ·exact good_rows (fun m X Y => rowK1 (L0 m) X Y) inf1 (by decide +kernel) q h
 rcases List.mem_append.1 h with h | h
 ·exact good_rows (fun m X Y => rowK2 (L0 m) X Y) inf2 (by decide +kernel) q h
 rcases List.mem_append.1 h with h | h
 ·exact good_rows (fun m X Y => rowK3 (L0 m) X Y) inf3 (by decide +kernel) q h
 rcases List.mem_append.1 h with h | h
 ·exact good_rows (fun m X Y => rowK4 (L0 m) X Y) inf4 (by decide +kernel) q h
 rcases List.mem_append.1 h with h | h
 ·exact good_rows (fun m X Y => rowK5 (L0 m) X Y) inf5 (by decide +kernel) q h
 rcases List.mem_append.1 h with h | h
 ·exact good_rows (fun m X Y => rowK6 (L0 m) X Y) inf6 (by decide +kernel) q h
 rcases List.mem_append.1 h with h | h
 ·exact good_rows (fun m X Y => rowK7 (L0 m) X Y) inf7 (by decide +kernel) q h
 obtain ⟨r, hr, rfl⟩ := List.mem_map.1 h
 exact ⟨do_val (fun m X Y => (rowV (L0 m) X Y).mem hr) (List.all_eq_true.1 (show rowsV.all chkV = true by decide +kernel) r hr), infV.mem hr⟩
def Handed (W : World) (v : Value) : Prop := lies none W (.c (.slice none 0 0)) v ∨ (∃ a, lies none W (.c (.slice (some a) 0 0)) v) ∨ ∃ (n : Nat) (x y : Nat → BitVec 64), n ≤ maxLen ∧ ∀ k, k ≤ n → lies none W (.slm 2 n (pairD x y 0 k)) v
def LawAt (n : Nat) : Prop := ∀ (m : Int) (W : World) (v : Value), Handed W v → ∀ (l : BitVec 8) (b0 b1 b2 b3 b4 b5 b6 b7 b8 b9 b10 b11 b12 b13 b14 b15 : BitVec 8) (n32 : BitVec 32), ∃ G : List (Nat × SV), (Glob (G1 m) W → Glob G W) ∧ Pt Tryz.prog G 6 [.u16 (BitVec.ofNat 16 n), .u8 l, .a8 [b0, b1, b2, b3, b4, b5, b6, b7, b8, b9, b10, b11, b12, b13, b14, b15], .u32 n32, .c v] (.bool true)
theorem inf16 {c : OpT} (hn : c.1 < 65536) (h : InfOK c) : infF (BitVec.ofNat 16 c.1).toNat = infD (BitVec.ofNat 16 c.1) (nmOf c.1) (BitVec.ofNat 8 (immOf c.1)) c.2.1 c.2.2 (bitsOf c.1) := by
 rw [show (BitVec.ofNat 16 c.1).toNat = c.1 by rw [BitVec.toNat_ofNat]; omega]
 exact h
theorem law_at {c : OpT} (hn : c.1 < 65536) (hi : InfOK c) (hfr : c.2.1 = [] ∨ c.2.1 ∈ frsL) (hc : (c.2.1, c.2.2, immOf c.1) ∈ combosL)
  (hd : ∀ (m : Int) (X Y : Nat → BitVec 64) (l : BitVec 8) (b0 b1 b2 b3 b4 b5 b6 b7 b8 b9 b10 b11 b12 b13 b14 b15 : BitVec 8) (n32 : BitVec 32), Pt Tryz.prog (G1 m) 16 [ins (BitVec.ofNat 16 c.1) (immB (immOf c.1) l) (immN (immOf c.1) n32) (immV (immOf c.1) [b0, b1, b2, b3, b4, b5, b6, b7, b8, b9, b10, b11, b12, b13, b14, b15]), argsD c.2.1 X Y] (okR c.2.2)) : LawAt c.1 := fun m W v hv l b0 b1 b2 b3 b4 b5 b6 b7 b8 b9 b10 b11 b12 b13 b14 b15 n32 => by
 obtain ⟨G, X, Y, h1, h2, h3⟩ := want_ok m hfr hv
 exact ⟨G, h2, law_pt h1 ((combos_ok (BitVec.ofNat 16 c.1)).mem hc) (finT_ok _) (inf16 hn hi) h3 l b0 b1 b2 b3 b4 b5 b6 b7 b8 b9 b10 b11 b12 b13 b14 b15 n32 (hd m X Y l b0 b1 b2 b3 b4 b5 b6 b7 b8 b9 b10 b11 b12 b13 b14 b15 n32)⟩
def chkQ (q : Quad) : Bool := q.2.1 != 0#32 || (decide (q.1 < 65536) && (frsL.contains q.2.2.1 && (combosL.contains (q.2.2.1, q.2.2.2, immOf q.1) && (immOf q.1 == 0 || immOf q.1 == 18 && quadsL.contains (q.1, 1#32, q.2.2.1, q.2.2.2)))))
theorem two_cases (l : BitVec 8) : immB 18 l = 0#32 ∨ immB 18 l = 1#32 := by
 revert l; decide +kernel
theorem lawQ : ∀ q ∈ quadsL, (q.2.1 == 0#32) = true → LawAt q.1 := fun q h h0 => by
 have hk := List.all_eq_true.1 (show quadsL.all chkQ = true by decide +kernel) q h
 have hq := quads_ok q h
 obtain ⟨n, b, fr, t⟩ := q
 obtain rfl : b = 0#32 := by simpa using h0
 simp only [chkQ, bne_self_eq_false, Bool.false_or, Bool.and_eq_true, decide_eq_true_eq, beq_iff_eq, Bool.or_eq_true] at hk
 obtain ⟨h1, h2, h3, h4⟩ := hk
 refine law_at (c := (n, fr, t)) h1 hq.2 (.inr (List.mem_of_elem_eq_true h2)) (List.mem_of_elem_eq_true h3) fun m X Y l b0 b1 b2 b3 b4 b5 b6 b7 b8 b9 b10 b11 b12 b13 b14 b15 n32 => ?_
 rcases h4 with h4 | ⟨h4, h5⟩
 ·simp only [h4]
  exact hq.1 m X Y
 ·simp only [h4]
  rcases two_cases l with e | e
  ·rw [e]
   exact hq.1 m X Y
  ·rw [e]
   exact (quads_ok _ (List.mem_of_elem_eq_true h5)).1 m X Y
theorem n32_hi (n : BitVec 32) : BitVec.setWidth 64 n >>> 32 = 0#64 := sh32_of_le (set32_le n)
theorem lawC65 : LawAt 65 := by
 refine law_at (c := (65, [], 127#8)) (by decide) (by unfold InfOK; kernel_rfl) (.inl rfl) (by rw [show immOf 65 = 20 by decide +kernel]; decide) fun m X Y l b0 b1 b2 b3 b4 b5 b6 b7 b8 b9 b10 b11 b12 b13 b14 b15 n32 => ?_
 rw [show immOf 65 = 20 by decide +kernel]
 have h := con65 (L0 m) (BitVec.setWidth 64 n32) X Y
 rw [n32_hi, if_pos (by decide)] at h
 exact Pt.weak ((t_Y16 (lfOK m)).pt h) (wk_val32 (by decide) (set32_le n32))
theorem lawC66 : LawAt 66 := by
 refine law_at (c := (66, [], 126#8)) (by decide) (by unfold InfOK; kernel_rfl) (.inl rfl) (by rw [show immOf 66 = 21 by decide +kernel]; decide) fun m X Y l b0 b1 b2 b3 b4 b5 b6 b7 b8 b9 b10 b11 b12 b13 b14 b15 n32 => ?_
 rw [show immOf 66 = 21 by decide +kernel]
 exact Pt.weak ((t_Y16 (lfOK m)).pt (con66 (L0 m) (BitVec.setWidth 64 n32) X Y)) (wk_val64 (by decide) _)
theorem lawC67 : LawAt 67 := by
 refine law_at (c := (67, [], 125#8)) (by decide) (by unfold InfOK; kernel_rfl) (.inl rfl) (by rw [show immOf 67 = 22 by decide +kernel]; decide) fun m X Y l b0 b1 b2 b3 b4 b5 b6 b7 b8 b9 b10 b11 b12 b13 b14 b15 n32 => ?_
 rw [show immOf 67 = 22 by decide +kernel]
 have h := con67 (L0 m) (BitVec.setWidth 64 n32) X Y
 rw [n32_hi, if_pos (by decide)] at h
 exact Pt.weak ((t_Y16 (lfOK m)).pt h) (wk_val32 (by decide) (set32_le n32))
theorem lawC68 : LawAt 68 := by
 refine law_at (c := (68, [], 124#8)) (by decide) (by unfold InfOK; kernel_rfl) (.inl rfl) (by rw [show immOf 68 = 23 by decide +kernel]; decide) fun m X Y l b0 b1 b2 b3 b4 b5 b6 b7 b8 b9 b10 b11 b12 b13 b14 b15 n32 => ?_
 rw [show immOf 68 = 23 by decide +kernel]
 exact Pt.weak ((t_Y16 (lfOK m)).pt (con68 (L0 m) (BitVec.setWidth 64 n32) X Y)) (wk_val64 (by decide) _)
theorem lawC64780 : LawAt 64780 := by
 refine law_at (c := (64780, [], 123#8)) (by decide) (by unfold InfOK; kernel_rfl) (.inl rfl) (by rw [show immOf 64780 = 24 by decide +kernel]; decide) fun m X Y l b0 b1 b2 b3 b4 b5 b6 b7 b8 b9 b10 b11 b12 b13 b14 b15 n32 => ?_
 rw [show immOf 64780 = 24 by decide +kernel]
 exact (t_Y16 (lfOK m)).pt (con64780 (L0 m) b0 b1 b2 b3 b4 b5 b6 b7 b8 b9 b10 b11 b12 b13 b14 b15 X Y)
theorem lawC64781 : LawAt 64781 := by
 refine law_at (c := (64781, [123#8, 123#8], 123#8)) (by decide) (by unfold InfOK; kernel_rfl) (.inr (by decide)) (by rw [show immOf 64781 = 19 by decide +kernel]; decide) fun m X Y l b0 b1 b2 b3 b4 b5 b6 b7 b8 b9 b10 b11 b12 b13 b14 b15 n32 => ?_
 rw [show immOf 64781 = 19 by decide +kernel]
 have h := shu64781 (L0 m) (b0 % 32#8) (b1 % 32#8) (b2 % 32#8) (b3 % 32#8) (b4 % 32#8) (b5 % 32#8) (b6 % 32#8) (b7 % 32#8) (b8 % 32#8) (b9 % 32#8) (b10 % 32#8) (b11 % 32#8) (b12 % 32#8) (b13 % 32#8) (b14 % 32#8) (b15 % 32#8) X Y
 have hb : ∀ b : BitVec 8, decide (b % 32#8 < 32#8) = true := by decide +kernel
 rw [has_ok (by decide)] at h
 simp only [List.all_cons, List.all_nil, hb, Bool.and_true] at h
 exact (t_Y16 (lfOK m)).pt h
def chkT (r : RowT) : Bool := ((okN r.fr.length && r.fr.all isTy) && chkK (kdT r.k) r.fr) && (decide (r.n < 65536) && (frsL.contains r.fr && (combosL.contains (r.fr, r.t, 0) && immOf r.n == 0)))
theorem lawT : ∀ r ∈ rowsT, LawAt r.n := fun r hr m W v hv l b0 b1 b2 b3 b4 b5 b6 b7 b8 b9 b10 b11 b12 b13 b14 b15 n32 => by
 have hk := List.all_eq_true.1 (show rowsT.all chkT = true by decide +kernel) r hr
 unfold chkT at hk
 rw [Bool.and_eq_true] at hk
 obtain ⟨hc, hk⟩ := hk
 simp only [Bool.and_eq_true, decide_eq_true_eq, beq_iff_eq] at hk
 obtain ⟨h1, h2, h3, h4⟩ := hk
 obtain ⟨G, X, Y, g1, g2, g3⟩ := want_ok m (fr := r.fr) (.inr (List.mem_of_elem_eq_true h2)) hv
 have hi := inf16 (c := (r.n, r.fr, r.t)) h1 (infT.mem hr)
 simp only [h4] at hi
 rcases do_trap ((rowT (L0 m) X Y).mem hr) hc with h | h
 ·exact ⟨G, g2, law_pt g1 (nfT.mem hr) rfl hi g3 l b0 b1 b2 b3 b4 b5 b6 b7 b8 b9 b10 b11 b12 b13 b14 b15 n32 h⟩
 ·exact ⟨G, g2, law_pt g1 ((combos_ok (BitVec.ofNat 16 r.n)).mem (List.mem_of_elem_eq_true h3)) (finT_ok _) hi g3 l b0 b1 b2 b3 b4 b5 b6 b7 b8 b9 b10 b11 b12 b13 b14 b15 n32 h⟩
def plainL : List Nat := (quadsL.filter fun q => q.2.1 == 0#32).map (·.1) ++ (rowsT.map (·.n) ++ [65, 66, 67, 68, 64780, 64781])
theorem plain_all : insAll.all (fun i => !i.plain || plainL.contains i.op) = true := by decide +kernel
theorem plain_law : ∀ n ∈ plainL, LawAt n := by
 intro n h
 unfold plainL at h
 rcases List.mem_append.1 h with h | h
 ·obtain ⟨q, hq, rfl⟩ := List.mem_map.1 h
  obtain ⟨h1, h2⟩ := List.mem_filter.1 hq
  exact lawQ q h1 h2
 rcases List.mem_append.1 h with h | h
 ·obtain ⟨r, hr, rfl⟩ := List.mem_map.1 h
  exact lawT r hr
 simp only [List.mem_cons, List.not_mem_nil, or_false] at h
 rcases h with rfl | rfl | rfl | rfl | rfl | rfl
 ·exact lawC65
 ·exact lawC66
 ·exact lawC67
 ·exact lawC68
 ·exact lawC64780
 ·exact lawC64781
end Go.L23
set_option maxRecDepth 100000
set_option maxHeartbeats 0
namespace Go.L23
open Go.Ev Go.Proofs Go.RowKit Go.Wh
abbrev nonD (a : BitVec 16) (s : ByteArray) (im : BitVec 8) (b e : Int) : D := .tup [.agg [.u16 a, .c (.string s), .u8 im, .xs, .xs, .i .i64 b, .bool false], .i .i64 e]
theorem nfN_0 (G : List (Nat × SV)) (o a : BitVec 16) (s : ByteArray) (im : BitVec 8) (b : Int) (g : D → D → Bool) (l : BitVec 8) (b0 b1 b2 b3 b4 b5 b6 b7 b8 b9 b10 b11 b12 b13 b14 b15 : BitVec 8) (n : BitVec 32) (v : Value) :
  execFn Tryz.prog G (tabOf [(18, infoC o (nonD a s im b 0)), (16, doG g errR), (12, worksS)]) cnn6 Tryz.f6 50 [.u16 o, .u8 l, .a8 [b0, b1, b2, b3, b4, b5, b6, b7, b8, b9, b10, b11, b12, b13, b14, b15], .u32 n, .c v] some = gd (o == o) (gd (g (ins o 0#32 0#64 z16) (.c (.slice none 0 0))) (some (.bool true))) := by kernel_rfl
theorem nfN_11 (G : List (Nat × SV)) (o a : BitVec 16) (s : ByteArray) (im : BitVec 8) (b : Int) (g : D → D → Bool) (l : BitVec 8) (b0 b1 b2 b3 b4 b5 b6 b7 b8 b9 b10 b11 b12 b13 b14 b15 : BitVec 8) (n : BitVec 32) (v : Value) :
  execFn Tryz.prog G (tabOf [(18, infoC o (nonD a s im b 11)), (16, doG g errR), (12, worksS)]) cnn6 Tryz.f6 50 [.u16 o, .u8 l, .a8 [b0, b1, b2, b3, b4, b5, b6, b7, b8, b9, b10, b11, b12, b13, b14, b15], .u32 n, .c v] some = gd (o == o) (gd (g (ins o 0#32 0#64 z16) (.c (.slice none 0 0))) (some (.bool true))) := by kernel_rfl
theorem nfD_0 (o a : BitVec 16) (s : ByteArray) (im : BitVec 8) (b : Int) : ex [(18, infoC o (nonD a s im b 0))] bnn16 Tryz.f16 [ins o 0#32 0#64 z16, .c (.slice none 0 0)] some = gd (o == o) (some errR) := by kernel_rfl
theorem nfD_11 (o a : BitVec 16) (s : ByteArray) (im : BitVec 8) (b : Int) : ex [(18, infoC o (nonD a s im b 11))] bnn16 Tryz.f16 [ins o 0#32 0#64 z16, .c (.slice none 0 0)] some = gd (o == o) (some errR) := by kernel_rfl
def isSlD : D → Bool
 | .c (.slice none 0 0) => true
 | .sl8 _ => true
 | _ => false
theorem slD_xs {d : D} (h : isSlD d = true) : Wk d .xs := fun own w v hv => by
 unfold isSlD at h
 split at h
 ·simp only [lies] at hv ⊢; subst hv; exact ⟨_, _, _, rfl⟩
 ·simp only [lies] at hv ⊢; obtain ⟨b, o, cap, rfl, _⟩ := hv; exact ⟨_, _, _, rfl⟩
 ·cases h
def lookP : D → Bool → Bool
 | .agg [.u16 _, .c (.string _), .u8 _, F, T, .i .i64 _, .bool p], q => isSlD F && (isSlD T && p == q)
 | _, _ => false
theorem lookP_all : insAll.all (fun i => lookP (infoD i) i.plain) = true := by decide +kernel
theorem lookP_ex {d : D} {q : Bool} (h : lookP d q = true) : ∃ a s im F T b, d = .agg [.u16 a, .c (.string s), .u8 im, F, T, .i .i64 b, .bool q] ∧ isSlD F = true ∧ isSlD T = true := by
 unfold lookP at h
 split at h
 ·simp only [Bool.and_eq_true, beq_iff_eq] at h
  obtain ⟨h1, h2, rfl⟩ := h
  exact ⟨_, _, _, _, _, _, rfl, h1, h2⟩
 ·cases h
theorem info_xs {a b c F T g h e : D} (hF : isSlD F = true) (hT : isSlD T = true) : Wk (.tup [.agg [a, b, c, F, T, g, h], e]) (.tup [.agg [a, b, c, .xs, .xs, g, h], e]) := tup_w fun own w v hv => by
 simp only [lies, lie] at hv ⊢
 obtain ⟨cs, rfl, v1, t1, rfl, h1, v2, t2, rfl, h2, v3, t3, rfl, h3, v4, t4, rfl, h4, v5, t5, rfl, h5, rest⟩ := hv
 have x4 := slD_xs hF own w v4 h4
 have x5 := slD_xs hT own w v5 h5
 simp only [lies] at x4 x5
 exact ⟨_, rfl, v1, _, rfl, h1, v2, _, rfl, h2, v3, _, rfl, h3, v4, _, rfl, x4, v5, _, rfl, x5, rest⟩
theorem t_infoW {o : BitVec 16} {d d' : D} (e : infF o.toNat = d) (h : Wk d d') : Snd 18 (infoC o d') := Sound.weakG t_of fun ds x hx => by
 split at hx
 ·rename_i y
  simp only [Option.some.injEq, Prod.mk.injEq, beq_iff_eq] at hx
  obtain ⟨rfl, rfl⟩ := hx
  exact ⟨_, rfl, by rw [e]; exact h⟩
 ·cases hx
theorem non_of {o : BitVec 16} (h : plainL.contains o.toNat = false) : ∃ a s im b, Snd 18 (infoC o (nonD a s im b 0)) ∨ Snd 18 (infoC o (nonD a s im b 11)) := by
 cases hl : lookO insAll o.toNat with
 | none =>
  refine ⟨0#16, ⟨⟨[]⟩⟩, 0#8, 0, .inr (t_infoW (d := .tup [noInfo, .i .i64 11]) (by unfold infF; rw [hl]) (info_xs rfl rfl))⟩
 | some i =>
  obtain ⟨hm, ho⟩ := lookO_mem hl
  have hp := List.all_eq_true.1 plain_all i hm
  rw [ho, h, Bool.or_false] at hp
  have hp' : i.plain = false := by simpa using hp
  have hk := List.all_eq_true.1 lookP_all i hm
  rw [hp'] at hk
  obtain ⟨a, s, im, F, T, b, e, hF, hT⟩ := lookP_ex hk
  exact ⟨a, s, im, b, .inl (t_infoW (d := .tup [.agg [.u16 a, .c (.string s), .u8 im, F, T, .i .i64 b, .bool false], .i .i64 0]) (by unfold infF; rw [hl]; simp only []; rw [e]) (info_xs hF hT))⟩
theorem non_pt {o : BitVec 16} (h : plainL.contains o.toNat = false) (l : BitVec 8) (b0 b1 b2 b3 b4 b5 b6 b7 b8 b9 b10 b11 b12 b13 b14 b15 : BitVec 8) (n32 : BitVec 32) (v : Value) : Pt Tryz.prog G0 6 [.u16 o, .u8 l, .a8 [b0, b1, b2, b3, b4, b5, b6, b7, b8, b9, b10, b11, b12, b13, b14, b15], .u32 n32, .c v] (.bool true) := by
 obtain ⟨a, s, im, b, h1 | h1⟩ := non_of h
 ·have hd : Pt Tryz.prog G0 16 [ins o 0#32 0#64 z16, .c (.slice none 0 0)] errR := by
   have key := nfD_0 o a s im b
   rw [beq_self_eq_true] at key
   exact (execFn_sound (ann := bnn16) (TableOK.cons h1 TableOK.nil) mixed Tryz.func16 (by kernel_rfl) 50).pt key
  have key := nfN_0 G0 o a s im b (fun x y => @decide (x = ins o 0#32 0#64 z16 ∧ y = .c (.slice none 0 0)) (Classical.propDecidable _)) l b0 b1 b2 b3 b4 b5 b6 b7 b8 b9 b10 b11 b12 b13 b14 b15 n32 v
  rw [beq_self_eq_true, @decide_eq_true _ (Classical.propDecidable _) (show ins o 0#32 0#64 z16 = ins o 0#32 0#64 z16 ∧ D.c (.slice none 0 0) = .c (.slice none 0 0) from ⟨rfl, rfl⟩)] at key
  exact (execFn_sound (P := Tryz.prog) (G := G0) (ann := cnn6) (TableOK.cons h1 (TableOK.cons (t_doG hd) (TableOK.cons t_works TableOK.nil))) mixed Tryz.func6 (by kernel_rfl) 50).pt key
 ·have hd : Pt Tryz.prog G0 16 [ins o 0#32 0#64 z16, .c (.slice none 0 0)] errR := by
   have key := nfD_11 o a s im b
   rw [beq_self_eq_true] at key
   exact (execFn_sound (ann := bnn16) (TableOK.cons h1 TableOK.nil) mixed Tryz.func16 (by kernel_rfl) 50).pt key
  have key := nfN_11 G0 o a s im b (fun x y => @decide (x = ins o 0#32 0#64 z16 ∧ y = .c (.slice none 0 0)) (Classical.propDecidable _)) l b0 b1 b2 b3 b4 b5 b6 b7 b8 b9 b10 b11 b12 b13 b14 b15 n32 v
  rw [beq_self_eq_true, @decide_eq_true _ (Classical.propDecidable _) (show ins o 0#32 0#64 z16 = ins o 0#32 0#64 z16 ∧ D.c (.slice none 0 0) = .c (.slice none 0 0) from ⟨rfl, rfl⟩)] at key
  exact (execFn_sound (P := Tryz.prog) (G := G0) (ann := cnn6) (TableOK.cons h1 (TableOK.cons (t_doG hd) (TableOK.cons t_works TableOK.nil))) mixed Tryz.func6 (by kernel_rfl) 50).pt key
theorem ends_pt (m : Int) {W : World} {v : Value} (hv : Handed W v) (o : BitVec 16) (l : BitVec 8) (b0 b1 b2 b3 b4 b5 b6 b7 b8 b9 b10 b11 b12 b13 b14 b15 : BitVec 8) (n32 : BitVec 32) : ∃ G : List (Nat × SV), (Glob (G1 m) W → Glob G W) ∧ Pt Tryz.prog G 6 [.u16 o, .u8 l, .a8 [b0, b1, b2, b3, b4, b5, b6, b7, b8, b9, b10, b11, b12, b13, b14, b15], .u32 n32, .c v] (.bool true) := by
 cases h : plainL.contains o.toNat with
 | true =>
  have hl := plain_law _ (List.mem_of_elem_eq_true h) m W v hv l b0 b1 b2 b3 b4 b5 b6 b7 b8 b9 b10 b11 b12 b13 b14 b15 n32
  have e : BitVec.ofNat 16 o.toNat = o := by simp
  rw [e] at hl
  exact hl
 | false => exact ⟨G0, fun hG => glob1 hG, non_pt h l b0 b1 b2 b3 b4 b5 b6 b7 b8 b9 b10 b11 b12 b13 b14 b15 n32 v⟩
end Go.L23

/-
  Part of the proof; what its functions and lemmas say stands in the text.
-/
import Derived.Test.YtlcgkcnknjflpaaDoorS06f
import Derived.Test.YtlcgkcnknjflpaaDoorEv23
set_option linter.unusedSimpArgs false
set_option linter.unusedVariables false
/-!
Chapter 06: bit by bit.
-/
namespace Go.L06
open Go.Ev Go.Proofs Go.RowKit Go.Rt

def bitF (o a b c : BitVec 8) : Bool :=
  if o = 1#8 then a == 0#8 else if o = 2#8 then (a == 1#8 && b == 1#8) else if o = 3#8 then (a == 1#8 && b == 0#8) else if o = 4#8 then (a == 1#8 || b == 1#8) else if o = 5#8 then !(a == b) else if c = 1#8 then a == 1#8 else b == 1#8
noncomputable def bitS : Ev.Spec := joined fun | [.u8 o, .u8 a, .u8 b, .u8 c] => some (.bool (bitF o a b c)) | _ => none
theorem bit46 : Snd 46 bitS := by
  refine Sound.join (execFn_sound (ann := fun _ => []) TableOK.nil mixed Tryd.func46 (by kernel_rfl) 50) fun ds d h => ?_
  split at h
  · rename_i o a b c
    cases h
    have nf : ex [] (fun _ => []) Tryd.f46 [.u8 o, .u8 a, .u8 b, .u8 c] some = if (o == 1#8) = true then some (D.bool (a == 0#8))
      else
        if (o == 2#8) = true then if (a == 1#8) = true then some (D.bool (b == 1#8)) else some (D.bool false)
        else
          if (o == 3#8) = true then if (a == 1#8) = true then some (D.bool (b == 0#8)) else some (D.bool false)
          else
            if (o == 4#8) = true then if (a == 1#8) = false then some (D.bool (b == 1#8)) else some (D.bool true)
            else
              if (o == 5#8) = true then some (D.bool !(a == b))
              else if (c == 1#8) = true then some (D.bool (a == 1#8)) else some (D.bool (b == 1#8)) := by kernel_rfl
    refine nf.trans ?_
    simp only [bitF, beq_iff_eq, beq_eq_false_iff_ne]
    repeat' split
    all_goals simp_all
  · cases h
def ann20 : Nat → List Nat := fun | 6 => [0, 8, 10, 11, 12, 13, 14] | _ => []
noncomputable def c20 : Code := findLoop (loops (Tryd.f20.body.getD .skip)) 6
noncomputable def S20 (o : BitVec 8) (A B C L : List (BitVec 8)) (i : Int) : St := ⟨mkT 75 [(0, .u8 o), (8, .ptr 0 0), (10, .ptr 1 0), (11, .ptr 2 0), (12, .ptr 3 0), (13, .ptr 4 0), (14, .i .i64 i)],
  [some ⟨.agg [.u64 0, .u64 0], true⟩, some ⟨.a8 A, true⟩, some ⟨.a8 B, true⟩, some ⟨.a8 C, true⟩, some ⟨.a8 L, true⟩]⟩

theorem wrap_i64 {n : Int} (h1 : -9223372036854775808 ≤ n) (h2 : n < 9223372036854775808) : IntKind.i64.wrap n = n := by
  have e : IntKind.i64.wrap n = if (n % 18446744073709551616) ≥ 9223372036854775808 then n % 18446744073709551616 - 18446744073709551616 else n % 18446744073709551616 := by
    simp [IntKind.wrap, IntKind.signed, IntKind.bits]
  rw [e]
  split <;> omega
/-- One bit. -/
def bAt (A : List (BitVec 8)) (i : Nat) : BitVec 8 := A.getD (i / 8) 0#8 >>> (i % 8) &&& 1#8
def step20 (o : BitVec 8) (A B C : List (BitVec 8)) (i : Nat) (L : List (BitVec 8)) : List (BitVec 8) :=
  if bitF o (bAt A i) (bAt B i) (bAt C i) = true then L.set (i / 8) (L.getD (i / 8) 0#8 ||| 1#8 <<< (i % 8)) else L
theorem body20 (o : BitVec 8) (A B C : List (BitVec 8)) (hA : A.length = 16) (hB : B.length = 16) (hC : C.length = 16) (i : Nat) (L : List (BitVec 8)) (hL : L.length = 16) (hi : i ≤ 128) (K : Ex → St → Option D) :
    exec Tryd.prog G0 (tabOf [(46, bitS)]) ann20 (fun _ => none) 50 c20 (S20 o A B C L i) (fun e st => K e (canon [0, 8, 10, 11, 12, 13, 14] st)) =
      if decide (i < 128) = true then K .normal (S20 o A B C (step20 o A B C i L) ((i + 1 : Nat) : Int)) else K (.exit 0) (S20 o A B C L i) := by
  have nf : ∀ (i : Int) (q r : Nat), exec Tryd.prog G0 (tabOf [(46, bitS)]) ann20 (fun _ => none) 50 c20 (S20 o A B C L i) (fun e st => K e (canon [0, 8, 10, 11, 12, 13, 14] st)) =
    if decide (i < 128) = true then
      if 0 ≤ IntKind.i64.wrap (i.tdiv 8) ∧ IntKind.i64.wrap (i.tdiv 8) < 16 then
        if 0 + (IntKind.i64.wrap (i.tdiv 8)).toNat * 1 < A.length then
          if 0 ≤ IntKind.i64.wrap (i.tdiv 8) ∧ IntKind.i64.wrap (i.tdiv 8) < 16 then
            if 0 + (IntKind.i64.wrap (i.tdiv 8)).toNat * 1 < B.length then
              if 0 ≤ IntKind.i64.wrap (i.tdiv 8) ∧ IntKind.i64.wrap (i.tdiv 8) < 16 then
                if 0 + (IntKind.i64.wrap (i.tdiv 8)).toNat * 1 < C.length then
                  if bitF o (A.getD (0 + (IntKind.i64.wrap (i.tdiv 8)).toNat * 1) 0#8 >>> (BitVec.ofInt 64 (i.tmod 8)).toNat &&& 1#8)
                      (B.getD (0 + (IntKind.i64.wrap (i.tdiv 8)).toNat * 1) 0#8 >>> (BitVec.ofInt 64 (i.tmod 8)).toNat &&& 1#8)
                      (C.getD (0 + (IntKind.i64.wrap (i.tdiv 8)).toNat * 1) 0#8 >>> (BitVec.ofInt 64 (i.tmod 8)).toNat &&& 1#8) = true then
                    if 0 ≤ IntKind.i64.wrap (i.tdiv 8) ∧ IntKind.i64.wrap (i.tdiv 8) < 16 then
                      if 0 + (IntKind.i64.wrap (i.tdiv 8)).toNat * 1 < L.length then
                        if 0 ≤ IntKind.i64.wrap (i.tdiv 8) ∧ IntKind.i64.wrap (i.tdiv 8) < 16 then
                          if 0 + (IntKind.i64.wrap (i.tdiv 8)).toNat * 1 < L.length then
                            K .normal (S20 o A B C (L.set (0 + (IntKind.i64.wrap (i.tdiv 8)).toNat * 1) (L.getD (0 + (IntKind.i64.wrap (i.tdiv 8)).toNat * 1) 0#8 ||| 1#8 <<< (BitVec.ofInt 64 (i.tmod 8)).toNat)) (IntKind.i64.wrap (i + 1)))
                          else none
                        else none
                      else none
                    else none
                  else K .normal (S20 o A B C L (IntKind.i64.wrap (i + 1)))
                else none
              else none
            else none
          else none
        else none
      else none
    else K (.exit 0) (S20 o A B C L i) := fun i q r => by kernel_rfl
  rw [nf i 0 0]
  by_cases h : i < 128
  · have hi' : ((i : Nat) : Int) < 128 := by omega
    have e1 : IntKind.i64.wrap ((i : Int).tdiv 8) = ((i / 8 : Nat) : Int) := by
      rw [Int.tdiv_eq_ediv_of_nonneg (by omega)]
      rw [wrap_i64 (by omega) (by omega)]
      omega
    have e2 : (BitVec.ofInt 64 ((i : Int).tmod 8)).toNat = i % 8 := by
      rw [Int.tmod_eq_emod_of_nonneg (by omega)]
      simp only [BitVec.toNat_ofInt]
      omega
    have e3 : IntKind.i64.wrap ((i : Int) + 1) = ((i + 1 : Nat) : Int) := by
      rw [wrap_i64 (by omega) (by omega)]
      omega
    have e4 : (0 : Int) ≤ ((i / 8 : Nat) : Int) ∧ ((i / 8 : Nat) : Int) < 16 := by omega
    have e5 : 0 + (((i / 8 : Nat) : Int)).toNat * 1 = i / 8 := by omega
    have e6 : i / 8 < 16 := by omega
    simp only [e1, e2, e3, e5, hA, hB, hC, hL, e6, e4, and_self, if_true, decide_eq_true_eq, hi', h]
    simp only [step20, bAt]
    split
    · rename_i hb; simp only [hb, if_true]
    · rename_i hb; simp only [hb, if_false, Bool.false_eq_true]
  · have hi' : ¬ ((i : Nat) : Int) < 128 := by omega
    simp only [decide_eq_true_eq, hi', h, if_false]

def loop20 (o : BitVec 8) (A B C : List (BitVec 8)) : Nat → List (BitVec 8) → Nat → List (BitVec 8)
  | i, L, 0 => L
  | i, L, n + 1 => loop20 o A B C (i + 1) (step20 o A B C i L) n
theorem step20_length (o : BitVec 8) (A B C : List (BitVec 8)) (i : Nat) (L : List (BitVec 8)) : (step20 o A B C i L).length = L.length := by
  unfold step20; split <;> simp
structure X20 where
  o : BitVec 8
  A : List (BitVec 8)
  B : List (BitVec 8)
  C : List (BitVec 8)
  L : List (BitVec 8)
  i : Nat
def fin20 (x : X20) : X20 := { x with L := loop20 x.o x.A x.B x.C x.i x.L (128 - x.i), i := max x.i 128 }
noncomputable def parse20 (st : St) : Option X20 := match st with
  | ⟨t, [some ⟨.agg [.u64 0#64, .u64 0#64], true⟩, some ⟨.a8 A, true⟩, some ⟨.a8 B, true⟩, some ⟨.a8 C, true⟩, some ⟨.a8 L, true⟩]⟩ =>
    match t.getD 0 .any, t.getD 8 .any, t.getD 10 .any, t.getD 11 .any, t.getD 12 .any, t.getD 13 .any, t.getD 14 .any with
    | .u8 o, .ptr 0 0, .ptr 1 0, .ptr 2 0, .ptr 3 0, .ptr 4 0, .i .i64 (.ofNat i) => if t.length = 75 ∧ A.length = 16 ∧ B.length = 16 ∧ C.length = 16 ∧ L.length = 16 ∧ i ≤ 128 then some ⟨o, A, B, C, L, i⟩ else none
    | _, _, _, _, _, _, _ => none
  | _ => none
theorem sem20 : SemOK Tryd.prog G0 c20 (sumF [0, 8, 10, 11, 12, 13, 14] parse20 (fun _ => .exit 0) (fun x => S20 x.o x.A x.B x.C x.L x.i) fin20) := by
  refine SemOK.sum (I := fun x => x.A.length = 16 ∧ x.B.length = 16 ∧ x.C.length = 16 ∧ x.L.length = 16 ∧ x.i ≤ 128) (S := fun x => S20 x.o x.A x.B x.C x.L x.i) ?_ ?_
  · refine loop_rule (sp := tabOf [(46, bitS)]) (ann := ann20) (ls := fun _ => none) (TableOK.cons bit46 TableOK.nil) mixed 50 LsOK.none (fun x : X20 => S20 x.o x.A x.B x.C x.L x.i) (fun _ => .exit 0) (fun _ h => by cases h) (fun x => S20 x.o x.A x.B x.C x.L x.i)
      (fun x => decide (x.i < 128)) (fun x => { x with L := step20 x.o x.A x.B x.C x.i x.L, i := x.i + 1 }) [0, 8, 10, 11, 12, 13, 14] _ ?_ ?_ fin20 ?_ (fun x => 128 - x.i) ?_
    · intro x ⟨h1, h2, h3, h4, h5⟩ hg
      have := of_decide_eq_true hg
      exact ⟨h1, h2, h3, by rw [step20_length]; exact h4, by show x.i + 1 ≤ 128; omega⟩
    · intro x ⟨h1, h2, h3, h4, h5⟩ K _
      exact body20 x.o x.A x.B x.C h1 h2 h3 x.i x.L h4 h5 K
    · intro x
      by_cases hg : x.i < 128
      · simp only [fin20, hg, decide_true, if_true]
        obtain ⟨n, hn⟩ : ∃ n, 128 - x.i = n + 1 := ⟨127 - x.i, by omega⟩
        have hn2 : 128 - (x.i + 1) = n := by omega
        have hm : max x.i 128 = max (x.i + 1) 128 := by omega
        rw [hn, hn2, hm]; rfl
      · have hn : 128 - x.i = 0 := by omega
        have hm : max x.i 128 = x.i := by omega
        simp only [fin20, hg, hn, hm, loop20, decide_false, Bool.false_eq_true, if_false]
    · intro x hg
      have := of_decide_eq_true hg
      show 128 - (x.i + 1) < 128 - x.i
      omega
  · intro st x hx
    unfold parse20 at hx
    split at hx
    · rename_i t A B C L
      split at hx
      · rename_i o i h0 h8 h10 h11 h12 h13 h14
        split at hx
        · rename_i hh
          obtain ⟨g1, g2, g3, g4, g5, g6⟩ := hh
          cases hx
          refine ⟨⟨g2, g3, g4, g5, g6⟩, fun w0 L' a w hrel => ?_⟩
          exact Rel.pick hrel g1 fun x hx => by
            simp only [List.mem_cons, List.not_mem_nil, or_false] at hx
            rcases hx with rfl | rfl | rfl | rfl | rfl | rfl | rfl
            · exact h0
            · exact h8
            · exact h10
            · exact h11
            · exact h12
            · exact h13
            · exact h14
        · cases hx
      · cases hx
    · cases hx

/-! ref06.Bits -/
noncomputable def ofBytesL : Ev.Spec := guarded fun | [.a8 l] => some (decide (l.length = 16), vec (w8 (l.getD 0 0#8) (l.getD 1 0#8) (l.getD 2 0#8) (l.getD 3 0#8) (l.getD 4 0#8) (l.getD 5 0#8) (l.getD 6 0#8) (l.getD 7 0#8)) (w8 (l.getD 8 0#8) (l.getD 9 0#8) (l.getD 10 0#8) (l.getD 11 0#8) (l.getD 12 0#8) (l.getD 13 0#8) (l.getD 14 0#8) (l.getD 15 0#8))) | _ => none
theorem len_cons' {α : Type} {l : List α} {n : Nat} (h : l.length = n + 1) : ∃ a t, l = a :: t ∧ t.length = n := by
  cases l with
  | nil => cases h
  | cons a t => exact ⟨a, t, rfl, by simpa using h⟩
theorem sixteen {α : Type} {l : List α} (h : l.length = 16) : ∃ b0 b1 b2 b3 b4 b5 b6 b7 b8 b9 b10 b11 b12 b13 b14 b15, l = [b0, b1, b2, b3, b4, b5, b6, b7, b8, b9, b10, b11, b12, b13, b14, b15] := by
  obtain ⟨b0, l0, rfl, h0⟩ := len_cons' h
  obtain ⟨b1, l1, rfl, h1⟩ := len_cons' h0
  obtain ⟨b2, l2, rfl, h2⟩ := len_cons' h1
  obtain ⟨b3, l3, rfl, h3⟩ := len_cons' h2
  obtain ⟨b4, l4, rfl, h4⟩ := len_cons' h3
  obtain ⟨b5, l5, rfl, h5⟩ := len_cons' h4
  obtain ⟨b6, l6, rfl, h6⟩ := len_cons' h5
  obtain ⟨b7, l7, rfl, h7⟩ := len_cons' h6
  obtain ⟨b8, l8, rfl, h8⟩ := len_cons' h7
  obtain ⟨b9, l9, rfl, h9⟩ := len_cons' h8
  obtain ⟨b10, l10, rfl, h10⟩ := len_cons' h9
  obtain ⟨b11, l11, rfl, h11⟩ := len_cons' h10
  obtain ⟨b12, l12, rfl, h12⟩ := len_cons' h11
  obtain ⟨b13, l13, rfl, h13⟩ := len_cons' h12
  obtain ⟨b14, l14, rfl, h14⟩ := len_cons' h13
  obtain ⟨b15, l15, rfl, h15⟩ := len_cons' h14
  obtain rfl := List.eq_nil_of_length_eq_zero h15
  exact ⟨_, _, _, _, _, _, _, _, _, _, _, _, _, _, _, _, rfl⟩
theorem ofBytesL27 : Snd 27 ofBytesL := ofBytes27.restrict fun ds K r h => by
  unfold ofBytesL guarded at h
  simp only [] at h
  split at h
  · rename_i b d hd
    split at hd
    · cases hd
      split at h
      · rename_i l hb
        obtain ⟨b0, b1, b2, b3, b4, b5, b6, b7, b8, b9, b10, b11, b12, b13, b14, b15, rfl⟩ := sixteen (of_decide_eq_true hb)
        exact h
      · cases h
    · cases hd
  · cases h
theorem loops20 : LsOK Tryd.prog G0 (lsOf [(6, sumF [0, 8, 10, 11, 12, 13, 14] parse20 (fun _ => .exit 0) (fun x => S20 x.o x.A x.B x.C x.L x.i) fin20)]) (Tryd.f20.body.getD .skip) := by
  refine LsOK.of (of_decide_eq_true (by kernel_rfl)) fun x hx => ?_
  simp only [List.mem_cons, List.not_mem_nil, or_false] at hx
  subst hx
  exact sem20

/-! The plain law of bits -/
def opB (o : BitVec 8) (p q r : Bool) : Bool :=
  if o = 1#8 then !p else if o = 2#8 then (p && q) else if o = 3#8 then (p && !q) else if o = 4#8 then (p || q) else if o = 5#8 then Bool.xor p q else ((p && r) || (q && !r))
/-- The operator on words. -/
def opW {n : Nat} (o : BitVec 8) (x y z : BitVec n) : BitVec n :=
  if o = 1#8 then ~~~x else if o = 2#8 then x &&& y else if o = 3#8 then x &&& ~~~y else if o = 4#8 then x ||| y else if o = 5#8 then x ^^^ y else x &&& z ||| y &&& ~~~z
theorem opW_bit {n : Nat} (o : BitVec 8) (x y z : BitVec n) (j : Nat) (hj : j < n) : (opW o x y z).getLsbD j = opB o (x.getLsbD j) (y.getLsbD j) (z.getLsbD j) := by
  unfold opW opB
  repeat' split
  all_goals simp [hj]
theorem bit1 (b : BitVec 8) (j : Nat) : b >>> j &&& 1#8 = if b.getLsbD j = true then 1#8 else 0#8 := by
  apply BitVec.eq_of_getLsbD_eq
  intro i hi
  rw [BitVec.getLsbD_and, BitVec.getLsbD_ushiftRight]
  rcases Nat.eq_zero_or_pos i with rfl | h0
  · cases b.getLsbD j <;> simp_all
  · have h1 : (1#8).getLsbD i = false := by
      have : i = 1 ∨ i = 2 ∨ i = 3 ∨ i = 4 ∨ i = 5 ∨ i = 6 ∨ i = 7 := by omega
      rcases this with rfl | rfl | rfl | rfl | rfl | rfl | rfl <;> decide
    rw [h1, Bool.and_false]
    split
    · rw [h1]
    · simp
theorem bitF_op (o : BitVec 8) (p q r : Bool) : bitF o (if p = true then 1#8 else 0#8) (if q = true then 1#8 else 0#8) (if r = true then 1#8 else 0#8) = opB o p q r := by
  unfold bitF opB
  cases p <;> cases q <;> cases r <;> repeat' (split <;> try rfl)
  all_goals simp_all
theorem shl1_bit (m j : Nat) (hj : j < 8) : (1#8 <<< m).getLsbD j = decide (j = m) := by
  rw [BitVec.getLsbD_shiftLeft]
  by_cases h : j = m
  · subst h; simp [hj]
  · rcases Nat.lt_or_ge j m with h1 | h1
    · simp [h1, h]
    · have h2 : (1#8).getLsbD (j - m) = false := by
        have : j - m = 1 ∨ j - m = 2 ∨ j - m = 3 ∨ j - m = 4 ∨ j - m = 5 ∨ j - m = 6 ∨ j - m = 7 := by omega
        rcases this with e | e | e | e | e | e | e <;> rw [e] <;> decide
      simp [h2, h]
theorem getD_set (L : List (BitVec 8)) (a k : Nat) (v : BitVec 8) (h : a < L.length) : (L.set a v).getD k 0#8 = if a = k then v else L.getD k 0#8 := by
  simp only [List.getD_eq_getElem?_getD, List.getElem?_set]
  split
  · rename_i e; subst e; simp [h]
  · rfl
theorem loop20_bits (o : BitVec 8) (A B C : List (BitVec 8)) : ∀ (n i : Nat) (L : List (BitVec 8)), L.length = 16 → i + n = 128 →
    (∀ k j, k < 16 → j < 8 → (L.getD k 0#8).getLsbD j = (decide (8 * k + j < i) && bitF o (bAt A (8 * k + j)) (bAt B (8 * k + j)) (bAt C (8 * k + j)))) →
    ∀ k j, k < 16 → j < 8 → ((loop20 o A B C i L n).getD k 0#8).getLsbD j = bitF o (bAt A (8 * k + j)) (bAt B (8 * k + j)) (bAt C (8 * k + j))
  | 0, i, L, hL, hn, h, k, j, hk, hj => by
    have e : 8 * k + j < i := by omega
    simpa [loop20, e] using h k j hk hj
  | n + 1, i, L, hL, hn, h, k, j, hk, hj => by
    simp only [loop20]
    refine loop20_bits o A B C n (i + 1) _ (by rw [step20_length]; exact hL) (by omega) (fun k j hk hj => ?_) k j hk hj
    have hi : i / 8 < L.length := by omega
    have old := h k j hk hj
    by_cases he : 8 * k + j = i
    · have e1 : i / 8 = k := by omega
      have e2 : i % 8 = j := by omega
      have e3 : 8 * k + j < i + 1 := by omega
      have e4 : ¬ 8 * k + j < i := by omega
      rw [decide_eq_false e4, Bool.false_and] at old
      rw [decide_eq_true e3, Bool.true_and, he]
      unfold step20
      split
      · rename_i hb
        rw [getD_set _ _ _ _ hi, if_pos e1, BitVec.getLsbD_or, e1, old, e2, shl1_bit _ _ hj, hb]; simp
      · rename_i hb
        rw [old]; simpa using hb
    · have e3 : (8 * k + j < i + 1) ↔ (8 * k + j < i) := by omega
      rw [decide_eq_decide.2 e3, ← old]
      unfold step20
      split
      · rw [getD_set _ _ _ _ hi]
        split
        · rename_i e1
          rw [BitVec.getLsbD_or, shl1_bit _ _ hj, e1]
          have : ¬ j = i % 8 := by omega
          simp [this]
        · rfl
      · rfl
theorem loop20_bytes (o : BitVec 8) (A B C : List (BitVec 8)) (k : Nat) (hk : k < 16) :
    (loop20 o A B C 0 [0#8, 0#8, 0#8, 0#8, 0#8, 0#8, 0#8, 0#8, 0#8, 0#8, 0#8, 0#8, 0#8, 0#8, 0#8, 0#8] 128).getD k 0#8 = opW o (A.getD k 0#8) (B.getD k 0#8) (C.getD k 0#8) := by
  apply BitVec.eq_of_getLsbD_eq
  intro j hj
  have z : ∀ k, ([0#8, 0#8, 0#8, 0#8, 0#8, 0#8, 0#8, 0#8, 0#8, 0#8, 0#8, 0#8, 0#8, 0#8, 0#8, 0#8] : List (BitVec 8)).getD k 0#8 = 0#8 := by
    intro k
    rcases Nat.lt_or_ge k 16 with h | h
    · have : k = 0 ∨ k = 1 ∨ k = 2 ∨ k = 3 ∨ k = 4 ∨ k = 5 ∨ k = 6 ∨ k = 7 ∨ k = 8 ∨ k = 9 ∨ k = 10 ∨ k = 11 ∨ k = 12 ∨ k = 13 ∨ k = 14 ∨ k = 15 := by omega
      rcases this with rfl | rfl | rfl | rfl | rfl | rfl | rfl | rfl | rfl | rfl | rfl | rfl | rfl | rfl | rfl | rfl <;> rfl
    · rw [List.getD_eq_getElem?_getD, List.getElem?_eq_none (by simpa using h)]; rfl
  rw [loop20_bits o A B C 128 0 _ rfl rfl (fun k j _ _ => by rw [z]; simp) k j hk hj, opW_bit _ _ _ _ _ hj]
  have e1 : (8 * k + j) / 8 = k := by omega
  have e2 : (8 * k + j) % 8 = j := by omega
  simp only [bAt, e1, e2, bit1, bitF_op]
theorem opW_bt (o : BitVec 8) (x y z : BitVec 64) (k : Nat) (hk : k + 8 ≤ 64) : opW o (bt x k) (bt y k) (bt z k) = bt (opW o x y z) k := by
  apply BitVec.eq_of_getLsbD_eq
  intro j hj
  rw [opW_bit _ _ _ _ _ hj]
  simp only [bt, BitVec.getLsbD_setWidth, BitVec.getLsbD_ushiftRight, hj, decide_true, Bool.true_and]
  rw [opW_bit _ _ _ _ _ (by omega)]
theorem w8_bt (x : BitVec 64) : w8 (bt x 0) (bt x 8) (bt x 16) (bt x 24) (bt x 32) (bt x 40) (bt x 48) (bt x 56) = x :=
  route (ρ := at3 x 0#64 0#64) (by kernel_rfl)
end Go.L06

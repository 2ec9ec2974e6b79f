/-
  Part of the proof; what its functions and lemmas say stands in the text.
-/
import Derived.Test.YtlcgkcnknjflpaaDoorS06u
set_option linter.unusedSimpArgs false
set_option linter.unusedVariables false
/-!
Chapter 06: bytes of two, by numbers, by the reference.
-/
namespace Go.L06
open Go.Ev Go.Proofs Go.RowKit Go.Rt

noncomputable def c37 : Code := findLoop (loops (Tryd.f37.body.getD .skip)) 4
noncomputable abbrev keep37 : List Nat := [5, 6, 7, 8, 9, 10, 11]
noncomputable def S37 (l : List (BitVec 8)) (r0 : BitVec 64) (r1 : BitVec 64) (x : List (BitVec 8)) (z : List (BitVec 8)) (o : List (BitVec 8)) (e : Int) (i : Int) : St := ⟨mkT 48 [(5, .ptr 0 0), (6, .ptr 1 0), (7, .i .i64 e), (8, .ptr 2 0), (9, .ptr 3 0), (10, .ptr 4 0), (11, .i .i64 i)], [some ⟨.a8 l, true⟩, some ⟨.agg [.u64 r0, .u64 r1], true⟩, some ⟨.a8 x, true⟩, some ⟨.a8 z, true⟩, some ⟨.a8 o, true⟩]⟩
theorem nf37 (l : List (BitVec 8)) (r0 : BitVec 64) (r1 : BitVec 64) (x : List (BitVec 8)) (z : List (BitVec 8)) (o : List (BitVec 8)) (e : Int) (i : Int) (K : Ex → St → Option D) : exec Tryd.prog G0 (tabOf []) (fun _ => []) (fun _ => none) 50 c37 (S37 l r0 r1 x z o e i) (fun e st => K e (canon keep37 st)) =
  if decide (i < 16) = true then if 0 ≤ i ∧ i < 16 then if 0 + i.toNat * 1 < (l).length then if decide (l.getD (0 + i.toNat * 1) 0 < BitVec.ofInt 8 16) = true then if 0 ≤ i ∧ i < 16 then if 0 + i.toNat * 1 < (l).length then if 0 ≤ (((l.getD (0 + i.toNat * 1) 0#8).toNat : Nat) : Int) ∧ (((l.getD (0 + i.toNat * 1) 0#8).toNat : Nat) : Int) < 16 then if 0 + ((((l.getD (0 + i.toNat * 1) 0#8).toNat : Nat) : Int)).toNat * 1 < (x).length then if 0 ≤ i ∧ i < 16 then if 0 + i.toNat * 1 < (o).length then K .normal ⟨mkT 48 [(5, .ptr 0 0), (6, .ptr 1 0), (7, .i .i64 e), (8, .ptr 2 0), (9, .ptr 3 0), (10, .ptr 4 0), (11, .i .i64 (IntKind.i64.wrap (i + 1)))], [some ⟨.a8 l, true⟩, some ⟨.agg [.u64 r0, .u64 r1], true⟩, some ⟨.a8 x, true⟩, some ⟨.a8 z, true⟩, some ⟨.a8 (o.set (0 + i.toNat * 1) (x.getD (0 + ((((l.getD (0 + i.toNat * 1) 0#8).toNat : Nat) : Int)).toNat * 1) 0#8)), true⟩]⟩ else none else none else none else none else none else none else if 0 ≤ i ∧ i < 16 then if 0 + i.toNat * 1 < (l).length then if decide (l.getD (0 + i.toNat * 1) 0 < BitVec.ofInt 8 32) = true then if 0 ≤ i ∧ i < 16 then if 0 + i.toNat * 1 < (l).length then if 0 ≤ (((l.getD (0 + i.toNat * 1) 0#8 - 16#8).toNat : Nat) : Int) ∧ (((l.getD (0 + i.toNat * 1) 0#8 - 16#8).toNat : Nat) : Int) < 16 then if 0 + ((((l.getD (0 + i.toNat * 1) 0#8 - 16#8).toNat : Nat) : Int)).toNat * 1 < (z).length then if 0 ≤ i ∧ i < 16 then if 0 + i.toNat * 1 < (o).length then K .normal ⟨mkT 48 [(5, .ptr 0 0), (6, .ptr 1 0), (7, .i .i64 e), (8, .ptr 2 0), (9, .ptr 3 0), (10, .ptr 4 0), (11, .i .i64 (IntKind.i64.wrap (i + 1)))], [some ⟨.a8 l, true⟩, some ⟨.agg [.u64 r0, .u64 r1], true⟩, some ⟨.a8 x, true⟩, some ⟨.a8 z, true⟩, some ⟨.a8 (o.set (0 + i.toNat * 1) (z.getD (0 + ((((l.getD (0 + i.toNat * 1) 0#8 - 16#8).toNat : Nat) : Int)).toNat * 1) 0#8)), true⟩]⟩ else none else none else none else none else none else none else K .ret ⟨mkT 48 [(5, .ptr 0 0), (6, .ptr 1 0), (7, .i .i64 2), (8, .ptr 2 0), (9, .ptr 3 0), (10, .ptr 4 0), (11, .i .i64 i)], [some ⟨.a8 l, true⟩, some ⟨.agg [.u64 0#64, .u64 0#64], true⟩, some ⟨.a8 x, true⟩, some ⟨.a8 z, true⟩, some ⟨.a8 o, true⟩]⟩ else none else none else none else none else K (.exit 0) ⟨mkT 48 [(5, .ptr 0 0), (6, .ptr 1 0), (7, .i .i64 e), (8, .ptr 2 0), (9, .ptr 3 0), (10, .ptr 4 0), (11, .i .i64 i)], [some ⟨.a8 l, true⟩, some ⟨.agg [.u64 r0, .u64 r1], true⟩, some ⟨.a8 x, true⟩, some ⟨.a8 z, true⟩, some ⟨.a8 o, true⟩]⟩  := by kernel_rfl
structure X37 where
  l : List (BitVec 8)
  r0 : BitVec 64
  r1 : BitVec 64
  x : List (BitVec 8)
  z : List (BitVec 8)
  o : List (BitVec 8)
  e : Int
  i : Nat
noncomputable abbrev Y37 (y : X37) : St := S37 y.l y.r0 y.r1 y.x y.z y.o y.e y.i
noncomputable def parse37 (st : St) : Option (Bool × X37) := match st with
  | ⟨t, [some ⟨.a8 l, true⟩, some ⟨.agg [.u64 r0, .u64 r1], true⟩, some ⟨.a8 x, true⟩, some ⟨.a8 z, true⟩, some ⟨.a8 o, true⟩]⟩ =>
    match t.getD 5 .any, t.getD 6 .any, t.getD 7 .any, t.getD 8 .any, t.getD 9 .any, t.getD 10 .any, t.getD 11 .any with
    | .ptr 0 0, .ptr 1 0, .i .i64 e, .ptr 2 0, .ptr 3 0, .ptr 4 0, .i .i64 (.ofNat i) => some (decide (t.length = 48 ∧ (l.length = 16 ∧ x.length = 16 ∧ z.length = 16 ∧ o.length = 16 ∧ i ≤ 16)), ⟨l, r0, r1, x, z, o, e, i⟩)
    | _, _, _, _, _, _, _ => none
  | _ => none
def go37 (y : X37) : Bool := decide (y.i < 16) && decide (y.l.getD y.i 0#8 < 32#8)
def val37 (x z : List (BitVec 8)) (c : BitVec 8) : BitVec 8 := if c < 16#8 then x.getD c.toNat 0#8 else z.getD (c - 16#8).toNat 0#8
def next37 (y : X37) : X37 := { y with o := y.o.set y.i (val37 y.x y.z (y.l.getD y.i 0#8)), i := y.i + 1 }
def I37 (y : X37) : Prop := y.l.length = 16 ∧ y.x.length = 16 ∧ y.z.length = 16 ∧ y.o.length = 16 ∧ y.i ≤ 16
theorem lt16_nat {c : BitVec 8} : c < 16#8 ↔ c.toNat < 16 := by rw [BitVec.lt_def]; rfl
theorem lt32_nat {c : BitVec 8} : c < 32#8 ↔ c.toNat < 32 := by rw [BitVec.lt_def]; rfl
theorem sub16 {c : BitVec 8} (h : ¬ c < 16#8) : (c - 16#8).toNat = c.toNat - 16 := by
  rw [lt16_nat] at h
  have := c.isLt
  rw [BitVec.toNat_sub]
  have e : (16#8).toNat = 16 := rfl
  rw [e]
  omega
theorem body37 (y : X37) (h : I37 y) (K : Ex → St → Option D) : exec Tryd.prog G0 (tabOf []) (fun _ => []) (fun _ => none) 50 c37 (Y37 y) (fun e st => K e (canon keep37 st)) =
    if go37 y = true then K .normal (Y37 (next37 y)) else if decide (y.i < 16) = true then K .ret (Y37 { y with r0 := 0#64, r1 := 0#64, e := 2 }) else K (.exit 0) (Y37 y) := by
  obtain ⟨hl, hx, hz, ho, hi⟩ := h
  refine (nf37 y.l y.r0 y.r1 y.x y.z y.o y.e y.i K).trans ?_
  have e16 : BitVec.ofInt 8 16 = 16#8 := rfl
  have e32 : BitVec.ofInt 8 32 = 32#8 := rfl
  have z8 : (0 : BitVec 8) = 0#8 := rfl
  simp only [e16, e32, z8, Int.toNat_natCast, hl, hx, hz, ho, Nat.mul_one, Nat.zero_add]
  unfold go37
  by_cases h : y.i < 16
  · have h1 : (y.i : Int) < 16 := by omega
    have h2 : (0 : Int) ≤ (y.i : Int) := by omega
    have hw : IntKind.i64.wrap ((y.i : Int) + 1) = ((y.i + 1 : Nat) : Int) := by rw [wrap_i64 (by omega) (by omega)]; rfl
    simp only [h, h1, h2, decide_true, if_true, and_self, Bool.true_and, hw]
    by_cases h3 : y.l.getD y.i 0#8 < 16#8
    · have h4 := lt16_32 h3
      have h5 := lt16_nat.1 h3
      have h6 : ((y.l.getD y.i 0#8).toNat : Int) < 16 := by omega
      have h7 : (0 : Int) ≤ ((y.l.getD y.i 0#8).toNat : Int) := by omega
      simp only [h3, h4, h5, h6, h7, decide_true, if_true, and_self]
      simp only [next37, val37, h3, if_true]
      rfl
    · by_cases h4 : y.l.getD y.i 0#8 < 32#8
      · have h5 := sub16 h3
        have h8 := lt32_nat.1 h4
        have h6 : (((y.l.getD y.i 0#8 - 16#8).toNat : Nat) : Int) < 16 := by omega
        have h7 : (0 : Int) ≤ (((y.l.getD y.i 0#8 - 16#8).toNat : Nat) : Int) := by omega
        have h9 : (y.l.getD y.i 0#8 - 16#8).toNat < 16 := by omega
        simp only [h3, h4, h6, h7, h9, decide_true, decide_false, if_true, if_false, Bool.false_eq_true, and_self]
        simp only [next37, val37, h3, if_false]
        rfl
      · simp only [h3, h4, decide_false, if_false, Bool.false_eq_true]
        rfl
  · have h1 : ¬ (y.i : Int) < 16 := by omega
    simp only [h, h1, decide_false, Bool.false_and, Bool.false_eq_true, if_false]
    rfl
theorem inv37 (y : X37) (h : I37 y) (hg : go37 y = true) : I37 (next37 y) := by
  obtain ⟨hl, hx, hz, ho, hi⟩ := h
  simp only [go37, Bool.and_eq_true, decide_eq_true_eq] at hg
  exact ⟨hl, hx, hz, by simpa [next37] using ho, by show y.i + 1 ≤ 16; omega⟩
theorem m37 (y : X37) (h : go37 y = true) : 16 - y.i = 16 - (next37 y).i + 1 := by
  simp only [go37, Bool.and_eq_true, decide_eq_true_eq] at h
  show 16 - y.i = 16 - (y.i + 1) + 1
  omega
noncomputable abbrev sum37 : LoopF := sumG keep37 parse37 (fun y => decide (y.i < 16)) .ret (fun y => Y37 { y with r0 := 0#64, r1 := 0#64, e := 2 }) (.exit 0) (fun y => Y37 y) (fun y => iter (go37) (next37) ((fun y => 16 - y.i) y) y)
theorem sem37 : SemOK Tryd.prog G0 c37 sum37 := by
  refine SemOK.count (sp := tabOf []) (ann := fun _ => []) (ls := fun _ => none) TableOK.nil mixed 50 LsOK.none Y37 _ _ (by simp [Ex.out]) _ _ (by simp [Ex.out]) _ keep37 parse37 (go37) (next37) I37 inv37 body37 (fun y => 16 - y.i) m37 ?_
  intro st y hx
  unfold parse37 at hx
  split at hx
  · rename_i t l r0 r1 x z o
    split at hx
    · rename_i e i h5 h6 h7 h8 h9 h10 h11
      simp only [Option.some.injEq, Prod.mk.injEq, decide_eq_true_eq] at hx
      obtain ⟨⟨g1, g2⟩, rfl⟩ := hx
      refine ⟨g2, fun w0 L' a w hrel => ?_⟩
      exact Rel.pick hrel g1 fun x hx => by
        simp only [List.mem_cons, List.not_mem_nil, or_false] at hx
        rcases hx with rfl | rfl | rfl | rfl | rfl | rfl | rfl
        · exact h5
        · exact h6
        · exact h7
        · exact h8
        · exact h9
        · exact h10
        · exact h11
    · cases hx
  · cases hx
noncomputable def ls37 : Nat → Option LoopF := lsOf [(4, sum37)]
theorem loops37 : LsOK Tryd.prog G0 ls37 (Tryd.f37.body.getD .skip) := by
  refine LsOK.of (of_decide_eq_true (by kernel_rfl)) fun x hx => ?_
  simp only [List.mem_cons, List.not_mem_nil, or_false] at hx
  subst hx
  exact sem37

theorem run37 (k : Nat) : ∀ y : X37, (run next37 k y).i = y.i + k ∧ (run next37 k y).l = y.l := by
  induction k with
  | zero => intro y; exact ⟨rfl, rfl⟩
  | succ k ih => intro y; obtain ⟨h1, h2⟩ := ih (next37 y); exact ⟨by rw [run, h1]; show y.i + 1 + k = _; omega, h2⟩
theorem fin37_ok (y : X37) (h0 : y.i = 0) (hl : y.l.length = 16) (hok : okSh y.l = true) : iter go37 next37 (16 - y.i) y = run next37 16 y := by
  rw [h0]
  refine iter_run _ _ fun k hk => ?_
  obtain ⟨h1, h2⟩ := run37 k y
  simp only [go37, h1, h2, h0, Nat.zero_add, Bool.and_eq_true, decide_eq_true_eq]
  exact ⟨hk, of_decide_eq_true (List.all_eq_true.1 hok _ (getD_mem (by omega)))⟩
theorem fin37_no (y : X37) (h0 : y.i = 0) (hl : y.l.length = 16) (hok : okSh y.l = false) : decide ((iter go37 next37 (16 - y.i) y).i < 16) = true := by
  have hJ := iter_inv (go := go37) (next := next37) (J := fun z => z.l = y.l ∧ ∀ j, j < z.i → y.l.getD j 0#8 < 32#8) (fun z ⟨h1, h2⟩ hg => ⟨h1, fun j hj => by
    simp only [go37, Bool.and_eq_true, decide_eq_true_eq] at hg
    rcases Nat.lt_or_ge j z.i with h | h
    · exact h2 j h
    · have : j = z.i := by have : j < z.i + 1 := hj; omega
      rw [this, ← h1]; exact hg.2⟩) (16 - y.i) y ⟨rfl, fun j hj => by omega⟩
  have hs := iter_stop (go := go37) (next := next37) (m := fun y => 16 - y.i) m37 _ y rfl
  revert hJ hs
  generalize iter go37 next37 (16 - y.i) y = z
  intro ⟨h1, h2⟩ hs
  rcases Nat.lt_or_ge z.i 16 with h | h
  · exact decide_eq_true h
  · exfalso
    have : okSh y.l = true := by
      refine List.all_eq_true.2 fun c hc => decide_eq_true ?_
      obtain ⟨j, hj, rfl⟩ := List.mem_iff_getElem.1 hc
      have := h2 j (by omega)
      rwa [List.getD_eq_getElem?_getD, List.getElem?_eq_getElem hj] at this
    rw [hok] at this; cases this
theorem bt_getF (x y : BitVec 64) (k : Nat) (h : k < 16) : (bytesF x y).getD k 0#8 = bt (getF x y 8 k) 0 := by
  have e : ∀ (x : BitVec 64) (k : Nat), bt (x >>> k &&& maskF 8) 0 = bt x k := fun x k => by
    unfold bt
    rw [BitVec.ushiftRight_zero]
    exact bt_mask x k
  have : k = 0 ∨ k = 1 ∨ k = 2 ∨ k = 3 ∨ k = 4 ∨ k = 5 ∨ k = 6 ∨ k = 7 ∨ k = 8 ∨ k = 9 ∨ k = 10 ∨ k = 11 ∨ k = 12 ∨ k = 13 ∨ k = 14 ∨ k = 15 := by omega
  rcases this with rfl | rfl | rfl | rfl | rfl | rfl | rfl | rfl | rfl | rfl | rfl | rfl | rfl | rfl | rfl | rfl
  · exact (e x 0).symm
  · exact (e x 8).symm
  · exact (e x 16).symm
  · exact (e x 24).symm
  · exact (e x 32).symm
  · exact (e x 40).symm
  · exact (e x 48).symm
  · exact (e x 56).symm
  · exact (e y 0).symm
  · exact (e y 8).symm
  · exact (e y 16).symm
  · exact (e y 24).symm
  · exact (e y 32).symm
  · exact (e y 40).symm
  · exact (e y 48).symm
  · exact (e y 56).symm
theorem val_pk (a0 a1 b0 b1 : BitVec 64) {c : BitVec 8} (h : c < 32#8) : val37 (bytesF a0 a1) (bytesF b0 b1) c = bt (pk a0 a1 b0 b1 c) 0 := by
  have h2 := lt32_nat.1 h
  have es : sOfU .i64 c = (c.toNat : Int) := by
    unfold sOfU
    rw [if_pos (by decide)]
  unfold val37 pk
  rw [es]
  by_cases h1 : c < 16#8
  · rw [if_pos h1, if_pos h1]
    exact bt_getF a0 a1 _ (lt16_nat.1 h1)
  · rw [if_neg h1, if_neg h1, sub16 h1]
    have h3 : ¬ c.toNat < 16 := fun h => h1 (lt16_nat.2 h)
    rw [wrap_i64 (by omega) (by omega), show (c.toNat : Int) - 16 = ((c.toNat - 16 : Nat) : Int) by omega]
    exact bt_getF b0 b1 _ (by omega)
theorem res37 (a0 a1 b0 b1 r0 r1 : BitVec 64) (e : Int) (l : List (BitVec 8)) (hl : l.length = 16) (hok : okSh l = true) :
    (run next37 16 ⟨l, r0, r1, bytesF a0 a1, bytesF b0 b1, [0#8, 0#8, 0#8, 0#8, 0#8, 0#8, 0#8, 0#8, 0#8, 0#8, 0#8, 0#8, 0#8, 0#8, 0#8, 0#8], e, 0⟩).o = [sh0 a0 a1 b0 b1 l 0, sh0 a0 a1 b0 b1 l 1, sh0 a0 a1 b0 b1 l 2, sh0 a0 a1 b0 b1 l 3, sh0 a0 a1 b0 b1 l 4, sh0 a0 a1 b0 b1 l 5, sh0 a0 a1 b0 b1 l 6, sh0 a0 a1 b0 b1 l 7, sh0 a0 a1 b0 b1 l 8, sh0 a0 a1 b0 b1 l 9, sh0 a0 a1 b0 b1 l 10, sh0 a0 a1 b0 b1 l 11, sh0 a0 a1 b0 b1 l 12, sh0 a0 a1 b0 b1 l 13, sh0 a0 a1 b0 b1 l 14, sh0 a0 a1 b0 b1 l 15] := by
  have hv : ∀ k, k < 16 → val37 (bytesF a0 a1) (bytesF b0 b1) (l.getD k 0#8) = sh0 a0 a1 b0 b1 l k := fun k hk => val_pk a0 a1 b0 b1 (of_decide_eq_true (List.all_eq_true.1 hok _ (getD_mem (by omega))))
  have e0 : (run next37 16 ⟨l, r0, r1, bytesF a0 a1, bytesF b0 b1, [0#8, 0#8, 0#8, 0#8, 0#8, 0#8, 0#8, 0#8, 0#8, 0#8, 0#8, 0#8, 0#8, 0#8, 0#8, 0#8], e, 0⟩).o = [val37 (bytesF a0 a1) (bytesF b0 b1) (l.getD 0 0#8), val37 (bytesF a0 a1) (bytesF b0 b1) (l.getD 1 0#8), val37 (bytesF a0 a1) (bytesF b0 b1) (l.getD 2 0#8), val37 (bytesF a0 a1) (bytesF b0 b1) (l.getD 3 0#8), val37 (bytesF a0 a1) (bytesF b0 b1) (l.getD 4 0#8), val37 (bytesF a0 a1) (bytesF b0 b1) (l.getD 5 0#8), val37 (bytesF a0 a1) (bytesF b0 b1) (l.getD 6 0#8), val37 (bytesF a0 a1) (bytesF b0 b1) (l.getD 7 0#8), val37 (bytesF a0 a1) (bytesF b0 b1) (l.getD 8 0#8), val37 (bytesF a0 a1) (bytesF b0 b1) (l.getD 9 0#8), val37 (bytesF a0 a1) (bytesF b0 b1) (l.getD 10 0#8), val37 (bytesF a0 a1) (bytesF b0 b1) (l.getD 11 0#8), val37 (bytesF a0 a1) (bytesF b0 b1) (l.getD 12 0#8), val37 (bytesF a0 a1) (bytesF b0 b1) (l.getD 13 0#8), val37 (bytesF a0 a1) (bytesF b0 b1) (l.getD 14 0#8), val37 (bytesF a0 a1) (bytesF b0 b1) (l.getD 15 0#8)] := by kernel_rfl
  rw [e0, hv 0 (by decide), hv 1 (by decide), hv 2 (by decide), hv 3 (by decide), hv 4 (by decide), hv 5 (by decide), hv 6 (by decide), hv 7 (by decide), hv 8 (by decide), hv 9 (by decide), hv 10 (by decide), hv 11 (by decide), hv 12 (by decide), hv 13 (by decide), hv 14 (by decide), hv 15 (by decide)]
theorem law37 (a0 a1 b0 b1 : BitVec 64) (l : List (BitVec 8)) : execFnL Tryd.prog G0 (tabOf [(25, bytesS), (27, ofBytesL)]) (fun _ => []) ls37 Tryd.f37 50 [vec a0 a1, vec b0 b1, .a8 l] some =
  if decide (48 = 48 ∧ (l.length = 16 ∧ (bytesF a0 a1).length = 16 ∧ (bytesF b0 b1).length = 16 ∧ ([0#8, 0#8, 0#8, 0#8, 0#8, 0#8, 0#8, 0#8, 0#8, 0#8, 0#8, 0#8, 0#8, 0#8, 0#8, 0#8] : List (BitVec 8)).length = 16 ∧ 0 ≤ 16)) = true then
    if decide ((iter go37 next37 (16 - 0) ⟨l, 0#64, 0#64, bytesF a0 a1, bytesF b0 b1, [0#8, 0#8, 0#8, 0#8, 0#8, 0#8, 0#8, 0#8, 0#8, 0#8, 0#8, 0#8, 0#8, 0#8, 0#8, 0#8], 0, 0⟩).i < 16) = true then some (.tup [vec 0#64 0#64, .i .i64 2])
    else if (iter go37 next37 (16 - 0) ⟨l, 0#64, 0#64, bytesF a0 a1, bytesF b0 b1, [0#8, 0#8, 0#8, 0#8, 0#8, 0#8, 0#8, 0#8, 0#8, 0#8, 0#8, 0#8, 0#8, 0#8, 0#8, 0#8], 0, 0⟩).o.length = 16 then if decide ((iter go37 next37 (16 - 0) ⟨l, 0#64, 0#64, bytesF a0 a1, bytesF b0 b1, [0#8, 0#8, 0#8, 0#8, 0#8, 0#8, 0#8, 0#8, 0#8, 0#8, 0#8, 0#8, 0#8, 0#8, 0#8, 0#8], 0, 0⟩).o.length = 16) = true then some (.tup [vec (w8 ((iter go37 next37 (16 - 0) ⟨l, 0#64, 0#64, bytesF a0 a1, bytesF b0 b1, [0#8, 0#8, 0#8, 0#8, 0#8, 0#8, 0#8, 0#8, 0#8, 0#8, 0#8, 0#8, 0#8, 0#8, 0#8, 0#8], 0, 0⟩).o.getD 0 0#8) ((iter go37 next37 (16 - 0) ⟨l, 0#64, 0#64, bytesF a0 a1, bytesF b0 b1, [0#8, 0#8, 0#8, 0#8, 0#8, 0#8, 0#8, 0#8, 0#8, 0#8, 0#8, 0#8, 0#8, 0#8, 0#8, 0#8], 0, 0⟩).o.getD 1 0#8) ((iter go37 next37 (16 - 0) ⟨l, 0#64, 0#64, bytesF a0 a1, bytesF b0 b1, [0#8, 0#8, 0#8, 0#8, 0#8, 0#8, 0#8, 0#8, 0#8, 0#8, 0#8, 0#8, 0#8, 0#8, 0#8, 0#8], 0, 0⟩).o.getD 2 0#8) ((iter go37 next37 (16 - 0) ⟨l, 0#64, 0#64, bytesF a0 a1, bytesF b0 b1, [0#8, 0#8, 0#8, 0#8, 0#8, 0#8, 0#8, 0#8, 0#8, 0#8, 0#8, 0#8, 0#8, 0#8, 0#8, 0#8], 0, 0⟩).o.getD 3 0#8) ((iter go37 next37 (16 - 0) ⟨l, 0#64, 0#64, bytesF a0 a1, bytesF b0 b1, [0#8, 0#8, 0#8, 0#8, 0#8, 0#8, 0#8, 0#8, 0#8, 0#8, 0#8, 0#8, 0#8, 0#8, 0#8, 0#8], 0, 0⟩).o.getD 4 0#8) ((iter go37 next37 (16 - 0) ⟨l, 0#64, 0#64, bytesF a0 a1, bytesF b0 b1, [0#8, 0#8, 0#8, 0#8, 0#8, 0#8, 0#8, 0#8, 0#8, 0#8, 0#8, 0#8, 0#8, 0#8, 0#8, 0#8], 0, 0⟩).o.getD 5 0#8) ((iter go37 next37 (16 - 0) ⟨l, 0#64, 0#64, bytesF a0 a1, bytesF b0 b1, [0#8, 0#8, 0#8, 0#8, 0#8, 0#8, 0#8, 0#8, 0#8, 0#8, 0#8, 0#8, 0#8, 0#8, 0#8, 0#8], 0, 0⟩).o.getD 6 0#8) ((iter go37 next37 (16 - 0) ⟨l, 0#64, 0#64, bytesF a0 a1, bytesF b0 b1, [0#8, 0#8, 0#8, 0#8, 0#8, 0#8, 0#8, 0#8, 0#8, 0#8, 0#8, 0#8, 0#8, 0#8, 0#8, 0#8], 0, 0⟩).o.getD 7 0#8)) (w8 ((iter go37 next37 (16 - 0) ⟨l, 0#64, 0#64, bytesF a0 a1, bytesF b0 b1, [0#8, 0#8, 0#8, 0#8, 0#8, 0#8, 0#8, 0#8, 0#8, 0#8, 0#8, 0#8, 0#8, 0#8, 0#8, 0#8], 0, 0⟩).o.getD 8 0#8) ((iter go37 next37 (16 - 0) ⟨l, 0#64, 0#64, bytesF a0 a1, bytesF b0 b1, [0#8, 0#8, 0#8, 0#8, 0#8, 0#8, 0#8, 0#8, 0#8, 0#8, 0#8, 0#8, 0#8, 0#8, 0#8, 0#8], 0, 0⟩).o.getD 9 0#8) ((iter go37 next37 (16 - 0) ⟨l, 0#64, 0#64, bytesF a0 a1, bytesF b0 b1, [0#8, 0#8, 0#8, 0#8, 0#8, 0#8, 0#8, 0#8, 0#8, 0#8, 0#8, 0#8, 0#8, 0#8, 0#8, 0#8], 0, 0⟩).o.getD 10 0#8) ((iter go37 next37 (16 - 0) ⟨l, 0#64, 0#64, bytesF a0 a1, bytesF b0 b1, [0#8, 0#8, 0#8, 0#8, 0#8, 0#8, 0#8, 0#8, 0#8, 0#8, 0#8, 0#8, 0#8, 0#8, 0#8, 0#8], 0, 0⟩).o.getD 11 0#8) ((iter go37 next37 (16 - 0) ⟨l, 0#64, 0#64, bytesF a0 a1, bytesF b0 b1, [0#8, 0#8, 0#8, 0#8, 0#8, 0#8, 0#8, 0#8, 0#8, 0#8, 0#8, 0#8, 0#8, 0#8, 0#8, 0#8], 0, 0⟩).o.getD 12 0#8) ((iter go37 next37 (16 - 0) ⟨l, 0#64, 0#64, bytesF a0 a1, bytesF b0 b1, [0#8, 0#8, 0#8, 0#8, 0#8, 0#8, 0#8, 0#8, 0#8, 0#8, 0#8, 0#8, 0#8, 0#8, 0#8, 0#8], 0, 0⟩).o.getD 13 0#8) ((iter go37 next37 (16 - 0) ⟨l, 0#64, 0#64, bytesF a0 a1, bytesF b0 b1, [0#8, 0#8, 0#8, 0#8, 0#8, 0#8, 0#8, 0#8, 0#8, 0#8, 0#8, 0#8, 0#8, 0#8, 0#8, 0#8], 0, 0⟩).o.getD 14 0#8) ((iter go37 next37 (16 - 0) ⟨l, 0#64, 0#64, bytesF a0 a1, bytesF b0 b1, [0#8, 0#8, 0#8, 0#8, 0#8, 0#8, 0#8, 0#8, 0#8, 0#8, 0#8, 0#8, 0#8, 0#8, 0#8, 0#8], 0, 0⟩).o.getD 15 0#8)), .i .i64 0]) else none else none
  else none := by kernel_rfl
theorem Shuf37 : Snd 37 ShufS := by
  refine Sound.guard (execFnL_sound (ann := fun _ => []) (ls := ls37) (TableOK.cons bytes25 (TableOK.cons ofBytesL27 TableOK.nil)) mixed Tryd.func37 (by kernel_rfl) 50 (fun c hc => by
    have e : c = Tryd.f37.body.getD .skip := by rw [hc]; rfl
    rw [e]; exact loops37)) fun ds d h => ?_
  split at h
  · rename_i a0 a1 b0 b1 l
    simp only [Option.some.injEq, Prod.mk.injEq, decide_eq_true_eq] at h
    obtain ⟨hl, rfl⟩ := h
    refine (law37 a0 a1 b0 b1 l).trans ?_
    rw [if_pos (by simp [hl, bytesF])]
    cases hok : okSh l
    · rw [if_pos (fin37_no ⟨l, 0#64, 0#64, bytesF a0 a1, bytesF b0 b1, [0#8, 0#8, 0#8, 0#8, 0#8, 0#8, 0#8, 0#8, 0#8, 0#8, 0#8, 0#8, 0#8, 0#8, 0#8, 0#8], 0, 0⟩ rfl hl hok)]
      rfl
    · have e := fin37_ok ⟨l, 0#64, 0#64, bytesF a0 a1, bytesF b0 b1, [0#8, 0#8, 0#8, 0#8, 0#8, 0#8, 0#8, 0#8, 0#8, 0#8, 0#8, 0#8, 0#8, 0#8, 0#8, 0#8], 0, 0⟩ rfl hl hok
      dsimp only at e
      have e0 := res37 a0 a1 b0 b1 0#64 0#64 0 l hl hok
      have e2 := (run37 16 ⟨l, 0#64, 0#64, bytesF a0 a1, bytesF b0 b1, [0#8, 0#8, 0#8, 0#8, 0#8, 0#8, 0#8, 0#8, 0#8, 0#8, 0#8, 0#8, 0#8, 0#8, 0#8, 0#8], 0, 0⟩).1
      rw [e, e0, e2]
      rfl
  · cases h
end Go.L06

/-
  Part of the proof; what its functions and lemmas say stands in the text.
-/
import Derived.Test.YtimaanpcglbnpaaDoorF08A
import Derived.Test.YtimaanpcglbnpaaDoorFlB
set_option linter.unusedSimpArgs false
set_option linter.unusedVariables false
/-!
Chapter 04: operators of two.
-/
namespace Go.L08F
open Go.Ev Go.Proofs Go.RowKit Go.Wh Go.Fl
open Go.L08

def ar4 (o : BitVec 8) : Bool := o == 1#8 || o == 2#8 || o == 3#8 || o == 4#8
def ar4S {β : Type} (o : BitVec 8) (x y z u : β) (e : β) : β := if (o == 1#8) = true then x else if (o == 2#8) = true then y else if (o == 3#8) = true then z else if (o == 4#8) = true then u else e
theorem ar4_eq {β γ : Type} (k : γ → β) (x y z u : γ) (e : β) {o : BitVec 8} (h : ar4 o = true) : ar4S o (k x) (k y) (k z) (k u) e = k (if (o == 1#8) = true then x else if (o == 2#8) = true then y else if (o == 3#8) = true then z else u) := by
  unfold ar4S
  unfold ar4 at h
  revert h
  cases (o == 1#8) <;> first | (intro; rfl) | skip
  cases (o == 2#8) <;> first | (intro; rfl) | skip
  cases (o == 3#8) <;> first | (intro; rfl) | skip
  cases (o == 4#8) <;> intro h <;> first | rfl | cases h
/-! bits -/
noncomputable def bitsG (BC : Int → Nat → Bool) (BV : Int → Nat → BitVec 64) : Ev.Spec := guarded fun | [.i .i64 w, .f .f64 x] => some (wOK w && BC w x, .u64 (BV w x)) | [.i .i64 w, .nan .f64] => some (wOK w, .u64 (naW w)) | _ => none
noncomputable abbrev lB1 : Ev.Spec := ex [(52, of32S), (53, of64S)] (fun _ => []) Tryd.f98
theorem s_b1 : Snd 98 lB1 := execFn_sound (ann := fun _ => []) (TableOK.cons x_of32 (TableOK.cons x_of64 TableOK.nil)) mixed Tryd.func98 (by kernel_rfl) 50
def f2sT (x : Ieee.Datum) (K : D → Option D) : Option D := match x with
  | .nan _ _ => K (.nan .f32)
  | .infinity g => K (.f .f32 (FloatKind.f32.encode (.infinity g)))
  | .number g m e => if (FloatKind.f32.decode (FloatKind.f32.encode (.number g m e))).isInfinity then K (.xf .f32 (fun x => x < 2 ^ 32)) else K (.f .f32 (FloatKind.f32.encode (.number g m e)))
def bitK : D → Option D
  | .f .f32 n => if decide (n < 2 ^ 32) = true then some (.u64 (BitVec.setWidth 64 (BitVec.ofNat 32 n))) else none
  | .nan .f32 => some (.xi .u64 (fun m => ∃ n, nanI .f32 n ∧ m = IntKind.u64.wrap n))
  | .xf .f32 p => some (.xi .u64 (fun m => ∃ n : Int, (∃ x : Nat, n = (x : Int) ∧ p x) ∧ m = IntKind.u64.wrap n))
  | _ => none
theorem nf_bits64 (x : Nat) : ex [(98, lB1)] (fun _ => []) Tryd.f62 [.i .i64 64, .f .f64 x] some = if (!(FloatKind.f64.format.order x x == some .eq)) = true then some (.u64 9221120237041090560#64) else if decide (x < 2 ^ 64) = true then some (.u64 (BitVec.ofNat 64 x)) else none := by kernel_rfl
theorem nf_bits32 (x : Nat) : ex [(98, lB1)] (fun _ => []) Tryd.f62 [.i .i64 32, .f .f64 x] some = if (!(FloatKind.f64.format.order x x == some .eq)) = true then some (.u64 2143289344#64) else f2sT (Ieee.double.read x) bitK := by kernel_rfl
theorem nf_bitsN64 : ex [(98, lB1)] (fun _ => []) Tryd.f62 [.i .i64 64, .nan .f64] some = some (.u64 9221120237041090560#64) := by kernel_rfl
theorem nf_bitsN32 : ex [(98, lB1)] (fun _ => []) Tryd.f62 [.i .i64 32, .nan .f64] some = some (.u64 2143289344#64) := by kernel_rfl
theorem up32 {n : Nat} (h : n < 2 ^ 32) : BitVec.setWidth 64 (BitVec.ofNat 32 n) = BitVec.ofNat 64 n := by
  apply BitVec.eq_of_toNat_eq
  rw [BitVec.toNat_setWidth, BitVec.toNat_ofNat, BitVec.toNat_ofNat, Nat.mod_eq_of_lt h]
theorem bitK_f {n : Nat} (h : n < 2 ^ 32) : bitK (.f .f32 n) = some (.u64 (BitVec.ofNat 64 n)) := (if_pos (decide_eq_true h)).trans (by rw [up32 h])
theorem f_bits : Snd 62 (bitsG bsC bsV) := by
  refine Sound.guard (execFn_sound (ann := fun _ => []) (TableOK.cons s_b1 TableOK.nil) mixed Tryd.func62 (by kernel_rfl) 50) fun ds d h => ?_
  have self : ∀ x, (FloatKind.f64.format.order x x == some Ordering.eq) = !isN Ieee.double x := fun x => order_self (f := Ieee.double) two_d
  split at h
  · rename_i w x
    simp only [Option.some.injEq, Prod.mk.injEq, Bool.and_eq_true] at h
    obtain ⟨⟨hw, hc⟩, rfl⟩ := h
    rcases wOK_cases hw with rfl | rfl
    · refine (nf_bits32 x).trans ?_
      rw [self]
      unfold bsV
      cases hn : isN Ieee.double x
      · simp only [Bool.not_false, Bool.not_true, Bool.false_eq_true, if_false, if_true]
        have hc' : (isN Ieee.double x || fin Ieee.single (Ieee.single.write (Ieee.double.read x)) || !fin Ieee.double x) = true := hc
        rw [hn] at hc'
        cases hf : fin Ieee.double x
        · have e := read_infty two_d hf hn
          rw [e]
          show bitK (.f .f32 (Ieee.single.write (.infinity (ng Ieee.double x)))) = _
          have hlt : Ieee.single.write (.infinity (ng Ieee.double x)) < 2 ^ 32 := write_lt two_s _
          exact bitK_f hlt
        · rw [hf] at hc'
          have e := read_fin hf
          rw [e] at hc' ⊢
          have hfin : fin Ieee.single (Ieee.single.write (.number (ng Ieee.double x) (mg Ieee.double x) (pl Ieee.double x))) = true := by simpa using hc'
          show (if (Ieee.single.read (Ieee.single.write (.number (ng Ieee.double x) (mg Ieee.double x) (pl Ieee.double x)))).isInfinity = true then _ else _) = _
          have hlt : Ieee.single.write (.number (ng Ieee.double x) (mg Ieee.double x) (pl Ieee.double x)) < 2 ^ 32 := write_lt two_s _
          have hi : (Ieee.single.read (Ieee.single.write (.number (ng Ieee.double x) (mg Ieee.double x) (pl Ieee.double x)))).isInfinity = false := by
            rw [read_fin hfin]; rfl
          rw [hi]
          show bitK (.f .f32 (Ieee.single.write (.number (ng Ieee.double x) (mg Ieee.double x) (pl Ieee.double x)))) = _
          exact bitK_f hlt
      · rfl
    · refine (nf_bits64 x).trans ?_
      rw [self]
      unfold bsV
      cases hn : isN Ieee.double x
      · have hc' : decide (x < 2 ^ 64) = true := hc
        rw [hc']; rfl
      · rfl
  · rename_i w
    simp only [Option.some.injEq, Prod.mk.injEq] at h
    obtain ⟨hw, rfl⟩ := h
    rcases wOK_cases hw with rfl | rfl
    · exact nf_bitsN32
    · exact nf_bitsN64
  · cases h

/-! sums -/
noncomputable def s32G (V : BitVec 8 → BitVec 64 → BitVec 64 → BitVec 64) : Ev.Spec := guarded fun | [.u8 o, .u64 a, .u64 b] => some (ar4 o && inF 32 a && inF 32 b, .u64 (V o a b)) | _ => none
def s32T (r : Option Nat) : Option D := match r with
  | some r => if (!(FloatKind.f32.format.order r r == some .eq)) = true then some (.u64 2143289344#64) else if decide (r < 2 ^ 32) = true then some (.u64 (BitVec.setWidth 64 (BitVec.ofNat 32 r))) else none
  | none => some (.u64 2143289344#64)
theorem nf_s32 (o : BitVec 8) (a b : BitVec 64) : ex [(96, to32S), (52, of32S)] (fun _ => []) Tryd.f60 [.u8 o, .u64 a, .u64 b] some =
  ar4S o (s32T (Ieee.single.add (BitVec.setWidth 32 a).toNat (BitVec.setWidth 32 b).toNat)) (s32T (Ieee.single.sub (BitVec.setWidth 32 a).toNat (BitVec.setWidth 32 b).toNat)) (s32T (Ieee.single.mul (BitVec.setWidth 32 a).toNat (BitVec.setWidth 32 b).toNat)) (s32T (Ieee.single.div (BitVec.setWidth 32 a).toNat (BitVec.setWidth 32 b).toNat)) (some (.u64 0#64)) := by kernel_rfl
theorem s32_cl {o : BitVec 8} {x y : Nat} : s32T (arN o Ieee.single x y) = some (.u64 (clO 32 (arN o Ieee.single x y))) := by
  cases hr : arN o Ieee.single x y with
  | none => rfl
  | some r =>
    have hlt : r < 2 ^ 32 := arN_lt two_s o hr
    have self : (FloatKind.f32.format.order r r == some Ordering.eq) = !isN Ieee.single r := order_self (f := Ieee.single) two_s
    unfold s32T clO
    simp only
    rw [self, decide_eq_true hlt, up32 hlt]
    show _ = some (D.u64 (if isN Ieee.single r = true then _ else _))
    cases isN Ieee.single r <;> rfl
theorem in_32 {a : BitVec 64} (h : inF 32 a = true) : (BitVec.setWidth 32 a).toNat = a.toNat := by
  rcases inF_cases h with ⟨_, h⟩ | h
  · exact lo32 h
  · cases h
theorem f_s32 : Snd 60 (s32G fun o a b => arW o 32 a b) := by
  refine Sound.guard (execFn_sound (ann := fun _ => []) (TableOK.cons x_to32 (TableOK.cons x_of32 TableOK.nil)) mixed Tryd.func60 (by kernel_rfl) 50) fun ds d h => ?_
  split at h
  · rename_i o a b
    simp only [Option.some.injEq, Prod.mk.injEq, Bool.and_eq_true] at h
    obtain ⟨⟨⟨ho, ha⟩, hb⟩, rfl⟩ := h
    refine (nf_s32 o a b).trans ((ar4_eq s32T _ _ _ _ _ ho).trans ?_)
    rw [in_32 ha, in_32 hb]
    exact s32_cl
  · cases h
noncomputable def s64G (V : BitVec 8 → Nat → Nat → BitVec 64) : Ev.Spec := guarded fun | [.u8 o, .f .f64 x, .f .f64 y] => some (ar4 o, .u64 (V o x y)) | [.u8 o, .nan .f64, .f .f64 _] => some (ar4 o, .u64 (naW 64)) | [.u8 o, .f .f64 _, .nan .f64] => some (ar4 o, .u64 (naW 64)) | [.u8 o, .nan .f64, .nan .f64] => some (ar4 o, .u64 (naW 64)) | _ => none
def s64T (BC : Int → Nat → Bool) (BV : Int → Nat → BitVec 64) (r : Option Nat) : Option D := match r with
  | some r => if (wOK 64 && BC 64 r) = true then some (.u64 (BV 64 r)) else none
  | none => some (.u64 (naW 64))
theorem nf_s64 (BC : Int → Nat → Bool) (BV : Int → Nat → BitVec 64) (o : BitVec 8) (x y : Nat) : ex [(62, bitsG BC BV)] (fun _ => []) Tryd.f61 [.u8 o, .f .f64 x, .f .f64 y] some =
  ar4S o (s64T BC BV (Ieee.double.add x y)) (s64T BC BV (Ieee.double.sub x y)) (s64T BC BV (Ieee.double.mul x y)) (s64T BC BV (Ieee.double.div x y)) (s64T BC BV (some 0)) := by kernel_rfl
theorem nf_s64n (BC : Int → Nat → Bool) (BV : Int → Nat → BitVec 64) (o : BitVec 8) (x : Nat) : ex [(62, bitsG BC BV)] (fun _ => []) Tryd.f61 [.u8 o, .nan .f64, .f .f64 x] some =
  ar4S o (some (.u64 (naW 64))) (some (.u64 (naW 64))) (some (.u64 (naW 64))) (some (.u64 (naW 64))) (s64T BC BV (some 0)) := by kernel_rfl
theorem nf_s64m (BC : Int → Nat → Bool) (BV : Int → Nat → BitVec 64) (o : BitVec 8) (x : Nat) : ex [(62, bitsG BC BV)] (fun _ => []) Tryd.f61 [.u8 o, .f .f64 x, .nan .f64] some =
  ar4S o (some (.u64 (naW 64))) (some (.u64 (naW 64))) (some (.u64 (naW 64))) (some (.u64 (naW 64))) (s64T BC BV (some 0)) := by kernel_rfl
theorem nf_s64b (BC : Int → Nat → Bool) (BV : Int → Nat → BitVec 64) (o : BitVec 8) : ex [(62, bitsG BC BV)] (fun _ => []) Tryd.f61 [.u8 o, .nan .f64, .nan .f64] some =
  ar4S o (some (.u64 (naW 64))) (some (.u64 (naW 64))) (some (.u64 (naW 64))) (some (.u64 (naW 64))) (s64T BC BV (some 0)) := by kernel_rfl
theorem s64_cl {o : BitVec 8} {x y : Nat} : s64T bsC bsV (arN o Ieee.double x y) = some (.u64 (clO 64 (arN o Ieee.double x y))) := by
  cases hr : arN o Ieee.double x y with
  | none => rfl
  | some r =>
    have hlt : r < 2 ^ 64 := arN_lt two_d o hr
    unfold s64T clO
    simp only
    have hc : (wOK 64 && bsC 64 r) = true := by
      show decide (r < 2 ^ 64) = true
      exact decide_eq_true hlt
    rw [if_pos hc]
    rfl
theorem f_s64 : Snd 61 (s64G fun o x y => clO 64 (arN o Ieee.double x y)) := by
  refine Sound.guard (execFn_sound (ann := fun _ => []) (TableOK.cons f_bits TableOK.nil) mixed Tryd.func61 (by kernel_rfl) 50) fun ds d h => ?_
  split at h
  · rename_i o x y
    simp only [Option.some.injEq, Prod.mk.injEq] at h
    obtain ⟨ho, rfl⟩ := h
    exact (nf_s64 _ _ o x y).trans ((ar4_eq (s64T bsC bsV) _ _ _ _ _ ho).trans s64_cl)
  · rename_i o x
    simp only [Option.some.injEq, Prod.mk.injEq] at h
    obtain ⟨ho, rfl⟩ := h
    exact (nf_s64n _ _ o x).trans ((ar4_eq (fun _ : Unit => some (D.u64 (naW 64))) () () () () _ ho).trans rfl)
  · rename_i o x
    simp only [Option.some.injEq, Prod.mk.injEq] at h
    obtain ⟨ho, rfl⟩ := h
    exact (nf_s64m _ _ o x).trans ((ar4_eq (fun _ : Unit => some (D.u64 (naW 64))) () () () () _ ho).trans rfl)
  · rename_i o
    simp only [Option.some.injEq, Prod.mk.injEq] at h
    obtain ⟨ho, rfl⟩ := h
    exact (nf_s64b _ _ o).trans ((ar4_eq (fun _ : Unit => some (D.u64 (naW 64))) () () () () _ ho).trans rfl)
  · cases h

/-! the least and the greatest -/
noncomputable def pickG (C : Nat → Nat → Bool) (V : Nat → Nat → Nat) (V1 V2 : Nat → Nat) : Ev.Spec := guarded fun
  | [.f .f64 x, .f .f64 y] => some (C x y, .f .f64 (V x y))
  | [.nan .f64, .nan .f64] => some (true, .f .f64 libNaN)
  | [.nan .f64, .f .f64 y] => some (true, .f .f64 (V1 y))
  | [.f .f64 x, .nan .f64] => some (true, .f .f64 (V2 x))
  | _ => none
def pkC (x y : Nat) : Bool := !isN Ieee.double x && !isN Ieee.double y && decide (x < 2 ^ 64) && decide (y < 2 ^ 64)
noncomputable def pkN (neg : Bool) (x : Nat) : Nat := if (FloatKind.f64.decode x == .infinity neg) = true then FloatKind.f64.encode (.infinity neg) else libNaN
noncomputable abbrev pickA (neg : Bool) : Ev.Spec := pickG pkC (pickF Ieee.double neg) (pkN neg) (pkN neg)
theorem pickA_ok {neg : Bool} {win : Ordering} {name : String} {g : Nat} (hw : win = if neg = true then .lt else .gt) (x : ExtF Tryd.prog g (Extern.MathDim.pick name neg win)) : Snd g (pickA neg) := by
  refine Sound.of_ptG fun ds d hd => ?_
  split at hd
  · simp only [Option.some.injEq, Prod.mk.injEq] at hd
    obtain ⟨hc, rfl⟩ := hd
    exact (pick_ok hw x).pt (if_pos hc)
  · simp only [Option.some.injEq, Prod.mk.injEq] at hd
    obtain ⟨_, rfl⟩ := hd
    exact (pickN_ok x).pt rfl
  · simp only [Option.some.injEq, Prod.mk.injEq] at hd
    obtain ⟨_, rfl⟩ := hd
    exact (pickN_ok x).pt rfl
  · simp only [Option.some.injEq, Prod.mk.injEq] at hd
    obtain ⟨_, rfl⟩ := hd
    exact (pickN_ok x).pt rfl
  · cases hd
theorem x_min : Snd 99 (pickA true) := pickA_ok (name := "math.archMin") (win := .lt) rfl ⟨⟨Tryd.f99, Tryd.func99, by kernel_rfl, by kernel_rfl, by kernel_rfl, by kernel_rfl⟩⟩
theorem x_max : Snd 103 (pickA false) := pickA_ok (name := "math.archMax") (win := .gt) rfl ⟨⟨Tryd.f103, Tryd.func103, by kernel_rfl, by kernel_rfl, by kernel_rfl, by kernel_rfl⟩⟩
noncomputable abbrev lMin (S : Ev.Spec) : Ev.Spec := ex [(99, S)] (fun _ => []) Tryd.f63
noncomputable abbrev lMax (S : Ev.Spec) : Ev.Spec := ex [(103, S)] (fun _ => []) Tryd.f65
theorem s_min : Snd 63 (lMin (pickA true)) := execFn_sound (ann := fun _ => []) (TableOK.cons x_min TableOK.nil) mixed Tryd.func63 (by kernel_rfl) 50
theorem s_max : Snd 65 (lMax (pickA false)) := execFn_sound (ann := fun _ => []) (TableOK.cons x_max TableOK.nil) mixed Tryd.func65 (by kernel_rfl) 50
noncomputable abbrev lNaN : Ev.Spec := ex [(97, to64S)] (fun _ => []) Tryd.f101
theorem s_NaN : Snd 101 lNaN := execFn_sound (ann := fun _ => []) (TableOK.cons x_to64 TableOK.nil) mixed Tryd.func101 (by kernel_rfl) 50
noncomputable abbrev lCps : Ev.Spec := ex [(97, to64S), (53, of64S)] (fun _ => []) Tryd.f102
theorem s_Cps : Snd 102 lCps := execFn_sound (ann := fun _ => []) (TableOK.cons x_to64 (TableOK.cons x_of64 TableOK.nil)) mixed Tryd.func102 (by kernel_rfl) 50
noncomputable abbrev lNan : Ev.Spec := ex [(101, lNaN), (102, lCps)] (fun _ => []) Tryd.f64
theorem s_nan : Snd 64 lNan := execFn_sound (ann := fun _ => []) (TableOK.cons s_NaN (TableOK.cons s_Cps TableOK.nil)) mixed Tryd.func64 (by kernel_rfl) 50
noncomputable def sigG (S : Int → BitVec 64) : Ev.Spec := joined fun | [.i .i64 w] => some (.u64 (S w)) | _ => none
def sigV (w : Int) : BitVec 64 := 1#64 <<< (BitVec.ofInt 64 (IntKind.i64.wrap (w - 1))).toNat
theorem f_sig : Snd 66 (sigG sigV) := by
  refine Sound.join (execFn_sound (ann := fun _ => []) TableOK.nil mixed Tryd.func66 (by kernel_rfl) 50) fun ds d h => ?_
  split at h
  · cases h; kernel_rfl
  · cases h
theorem sig_W {w : Int} (h : wOK w = true) : sigV w = sgW w := by
  rcases wOK_cases h with rfl | rfl <;> decide

/-! operators of two -/
abbrev WV := BitVec 8 → Int → BitVec 64 → BitVec 64 → BitVec 64
noncomputable def twoG (V : WV) (E : CE) : Ev.Spec := joined fun | [.u8 o, .i .i64 w, .u64 a, .u64 b] => some (.tup [.u64 (V o w a b), .i .i64 (E o w a b)]) | _ => none
def okT (x : BitVec 64) : Option D := some (.tup [.u64 x, .i .i64 0])
def adT (BC : Int → Nat → Bool) (BV : Int → Nat → BitVec 64) (w : Int) (r : Option Nat) : Option D := match r with
  | some r => if (wOK w && BC w r) = true then okT (BV w r) else none
  | none => if wOK w = true then okT (naW w) else none
def mnT (BC : Int → Nat → Bool) (BV : Int → Nat → BitVec 64) (w : Int) (c ox oy : Bool) (v : Nat) : Option D := if c = true then if (!ox) = false then if (!oy) = true then adT BC BV w (Ieee.double.add v libNaN) else adT BC BV w (Ieee.double.add v 9223372036854775808) else adT BC BV w (Ieee.double.add v libNaN) else none
def opT (o : BitVec 8) (w : Int) (a b : BitVec 64) (g32 : Bool) (v32 v64 : BitVec 64) (mn mx : Option D) (cs : BitVec 64) (pm px : Bool) : Option D :=
  ar4S o (if (w == 32) = true then (if g32 = true then okT v32 else none) else (if ar4 o = true then okT v64 else none)) (if (w == 32) = true then (if g32 = true then okT v32 else none) else (if ar4 o = true then okT v64 else none))
    (if (w == 32) = true then (if g32 = true then okT v32 else none) else (if ar4 o = true then okT v64 else none)) (if (w == 32) = true then (if g32 = true then okT v32 else none) else (if ar4 o = true then okT v64 else none))
    (if (o == 5#8) = true then mn else if (o == 6#8) = true then mx else if (o == 7#8) = true then okT cs else if (o == 8#8) = true then (if pm = true then okT b else okT a) else if (o == 9#8) = true then (if px = true then okT b else okT a) else some (.tup [.u64 0#64, .i .i64 2]))
theorem nf_two (M : Int → List (BitVec 64) → Bool) (C N : Int → BitVec 64 → Bool) (X : Int → BitVec 64 → Nat) (V32 : BitVec 8 → BitVec 64 → BitVec 64 → BitVec 64) (V64 : BitVec 8 → Nat → Nat → BitVec 64) (BC : Int → Nat → Bool) (BV : Int → Nat → BitVec 64) (PC : Nat → Nat → Bool) (P Q : Nat → Nat → Nat) (P1 P2 Q1 Q2 : Nat → Nat) (S : Int → BitVec 64)
  (o : BitVec 8) (w : Int) (a b : BitVec 64) : ex [(58, fmayG M), (59, ofG C N X), (60, s32G V32), (61, s64G V64), (62, bitsG BC BV), (63, lMin (pickG PC P P1 P2)), (64, lNan), (65, lMax (pickG PC Q Q1 Q2)), (66, sigG S)] (fun _ => []) Tryd.f29 [.u8 o, .i .i64 w, .u64 a, .u64 b] some =
  if (!M w [a, b]) = true then some (.tup [.u64 0#64, .i .i64 2]) else if C w a = true then
    if N w a = true then (if C w b = true then
        if N w b = true then opT o w a b (ar4 o && inF 32 a && inF 32 b) (V32 o a b) (naW 64) (if wOK w = true then okT (naW w) else none) (if wOK w = true then okT (naW w) else none) (a &&& ~~~(S w) ||| b &&& S w) false false
        else opT o w a b (ar4 o && inF 32 a && inF 32 b) (V32 o a b) (naW 64) (adT BC BV w (Ieee.double.add (P1 (X w b)) libNaN)) (adT BC BV w (Ieee.double.add (Q1 (X w b)) libNaN)) (a &&& ~~~(S w) ||| b &&& S w) false false
      else none)
    else (if C w b = true then
        if N w b = true then opT o w a b (ar4 o && inF 32 a && inF 32 b) (V32 o a b) (naW 64) (if (!(FloatKind.f64.format.order (X w a) (X w a) == some .eq)) = false then adT BC BV w (Ieee.double.add (P2 (X w a)) libNaN) else adT BC BV w (Ieee.double.add (P2 (X w a)) libNaN))
          (if (!(FloatKind.f64.format.order (X w a) (X w a) == some .eq)) = false then adT BC BV w (Ieee.double.add (Q2 (X w a)) libNaN) else adT BC BV w (Ieee.double.add (Q2 (X w a)) libNaN)) (a &&& ~~~(S w) ||| b &&& S w) false false
        else opT o w a b (ar4 o && inF 32 a && inF 32 b) (V32 o a b) (V64 o (X w a) (X w b)) (mnT BC BV w (PC (X w a) (X w b)) (FloatKind.f64.format.order (X w a) (X w a) == some .eq) (FloatKind.f64.format.order (X w b) (X w b) == some .eq) (P (X w a) (X w b)))
          (mnT BC BV w (PC (X w a) (X w b)) (FloatKind.f64.format.order (X w a) (X w a) == some .eq) (FloatKind.f64.format.order (X w b) (X w b) == some .eq) (Q (X w a) (X w b))) (a &&& ~~~(S w) ||| b &&& S w)
          (FloatKind.f64.format.order (X w b) (X w a) == some .lt) (FloatKind.f64.format.order (X w a) (X w b) == some .lt)
      else none) else none := by kernel_rfl
theorem okT_tw {o : BitVec 8} {w : Int} {a b : BitVec 64} (hm : maW w [a, b] = true) : some (D.tup [.u64 (twW o w a b), .i .i64 (twE o)]) = some (D.tup [.u64 (ftwV o w a b), .i .i64 (ftwE o w a b)]) := by
  unfold ftwV ftwE
  rw [hm]; rfl
theorem opT_eq {o : BitVec 8} {w : Int} {a b : BitVec 64} (hw : wOK w = true) {g32 : Bool} {v32 v64 : BitVec 64} {mn mx : Option D} {cs : BitVec 64} {pm px : Bool}
    (h1 : w = 32 → ar4 o = true → g32 = true ∧ v32 = arW o w a b) (h2 : w = 64 → v64 = arW o w a b) (h3 : mn = okT (lsW true w a b)) (h4 : mx = okT (lsW false w a b)) (h5 : cs = (a &&& ~~~(sgW w) ||| b &&& sgW w)) (h6 : pm = leW w b a) (h7 : px = leW w a b) :
    opT o w a b g32 v32 v64 mn mx cs pm px = some (.tup [.u64 (twW o w a b), .i .i64 (twE o)]) := by
  subst h3 h4 h5 h6 h7
  have har : ar4 o = true → (if (w == 32) = true then (if g32 = true then okT v32 else none) else (if ar4 o = true then okT v64 else none)) = okT (arW o w a b) := fun ho => by
    rcases wOK_cases hw with rfl | rfl
    · obtain ⟨g, v⟩ := h1 rfl ho
      rw [g, v]; rfl
    · rw [h2 rfl, ho]; rfl
  unfold opT ar4S twW twE
  have hd : ar4 o = (o == 1#8 || o == 2#8 || o == 3#8 || o == 4#8) := rfl
  generalize (if (w == 32) = true then (if g32 = true then okT v32 else none) else (if ar4 o = true then okT v64 else none)) = AR at har ⊢
  rw [hd] at har
  revert har
  generalize (o == 1#8) = c1
  generalize (o == 2#8) = c2
  generalize (o == 3#8) = c3
  generalize (o == 4#8) = c4
  generalize (o == 5#8) = c5
  generalize (o == 6#8) = c6
  generalize (o == 7#8) = c7
  generalize (o == 8#8) = c8
  generalize (o == 9#8) = c9
  intro har
  cases c1
  · cases c2
    · cases c3
      · cases c4
        · cases c5 <;> first | rfl | skip
          cases c6 <;> first | rfl | skip
          cases c7 <;> first | rfl | skip
          cases c8
          · cases c9
            · rfl
            · cases leW w a b <;> rfl
          · cases leW w b a <;> rfl
        · exact har rfl
      · exact har rfl
    · exact har rfl
  · exact har rfl
theorem lib_nan : isN Ieee.double libNaN = true := by decide
theorem ad_lib {w : Int} (hw : wOK w = true) (BC : Int → Nat → Bool) (BV : Int → Nat → BitVec 64) (v : Nat) : adT BC BV w (Ieee.double.add v libNaN) = okT (naW w) := by
  rw [add_noneR two_d lib_nan]
  unfold adT
  simp only [hw, if_true]
theorem ls_nan {neg : Bool} {w : Int} {a b : BitVec 64} (h : (noW w a || noW w b) = true) : okT (naW w) = okT (lsW neg w a b) := by
  unfold lsW; rw [if_pos h]
theorem mn_num {neg : Bool} {w : Int} {a b : BitVec 64} (hw : wOK w = true) (ha : inF w a = true) (hb : inF w b = true) (na : noW w a = false) (nb : noW w b = false) :
    mnT bsC bsV w (pkC (wdW w a) (wdW w b)) (FloatKind.f64.format.order (wdW w a) (wdW w a) == some .eq) (FloatKind.f64.format.order (wdW w b) (wdW w b) == some .eq) (pickF Ieee.double neg (wdW w a) (wdW w b)) = okT (lsW neg w a b) := by
  obtain ⟨p1, p2, p3, p4⟩ := bs_pick (neg := neg) ha hb na nb
  have self : ∀ x, (FloatKind.f64.format.order x x == some Ordering.eq) = !isN Ieee.double x := fun x => order_self (f := Ieee.double) two_d
  have hc : pkC (wdW w a) (wdW w b) = true := by
    unfold pkC
    rw [wd_notN ha na, wd_notN hb nb, decide_eq_true (wd_lt ha na), decide_eq_true (wd_lt hb nb)]; rfl
  rw [hc, self, self, wd_notN ha na, wd_notN hb nb]
  have hz : Ieee.double.read 9223372036854775808 = .number true 0 (-1074) := by decide
  have e : Ieee.double.add (pickF Ieee.double neg (wdW w a) (wdW w b)) 9223372036854775808 = some (pickF Ieee.double neg (wdW w a) (wdW w b)) := add_neg0 two_d p1 p2 hz (by decide)
  show adT bsC bsV w (Ieee.double.add (pickF Ieee.double neg (wdW w a) (wdW w b)) 9223372036854775808) = _
  rw [e]
  unfold adT
  simp only [hw, p3, p4, Bool.and_true, if_true]
theorem in_ok {w : Int} {a : BitVec 64} (h : inF w a = true) : wOK w = true := by
  unfold inF at h
  rw [Bool.and_eq_true] at h
  exact h.1
theorem ar_nan {o : BitVec 8} {w : Int} {a b : BitVec 64} (h : (noW w a || noW w b) = true) : naW w = arW o w a b := by
  unfold arW
  rw [Bool.or_eq_true] at h
  rcases h with h | h
  · rw [arN_nanL (two_fm w) o h]; rfl
  · rw [arN_nanR (two_fm w) o h]; rfl
theorem le_nan {w : Int} {a b : BitVec 64} (h : (noW w a || noW w b) = true) : leW w a b = false := by
  unfold leW
  revert h
  cases noW w a <;> cases noW w b <;> intro h <;> first | rfl | cases h
theorem f_two : Snd 29 (twoG ftwV ftwE) := by
  refine Sound.join (execFn_sound (ann := fun _ => []) (TableOK.cons f_may (TableOK.cons f_of (TableOK.cons f_s32 (TableOK.cons f_s64 (TableOK.cons f_bits (TableOK.cons s_min (TableOK.cons s_nan (TableOK.cons s_max (TableOK.cons f_sig TableOK.nil))))))))) mixed Tryd.func29 (by kernel_rfl) 50) fun ds d h => ?_
  split at h
  · rename_i o w a b
    cases h
    refine (nf_two _ _ _ _ _ _ _ _ _ _ _ _ _ _ _ _ o w a b).trans ?_
    cases hm : maW w [a, b]
    · unfold ftwV ftwE
      rw [hm]; rfl
    · obtain ⟨ia, ib⟩ := maW2 hm
      have hw := in_ok ia
      rw [ia, ib]
      refine Eq.trans ?_ (okT_tw hm)
      have g32 : w = 32 → ar4 o = true → (ar4 o && inF 32 a && inF 32 b) = true ∧ arW o 32 a b = arW o w a b := fun hw ho => by
        subst hw
        rw [ho, ia, ib]
        exact ⟨rfl, rfl⟩
      have hs : (a &&& ~~~(sigV w) ||| b &&& sigV w) = (a &&& ~~~(sgW w) ||| b &&& sgW w) := by rw [sig_W hw]
      cases na : noW w a <;> cases nb : noW w b
      · refine opT_eq hw g32 (fun h => ?_) (mn_num hw ia ib na nb) (mn_num hw ia ib na nb) hs (ord_lt ib ia nb na) (ord_lt ia ib na nb)
        subst h; rfl
      · have hn : (noW w a || noW w b) = true := by rw [na, nb]; rfl
        have hn' : (noW w b || noW w a) = true := by rw [na, nb]; rfl
        refine opT_eq hw g32 (fun h => by subst h; exact ar_nan hn) ?_ ?_ hs (le_nan hn').symm (le_nan hn).symm
        · rw [ad_lib hw, ite_self]; exact ls_nan hn
        · rw [ad_lib hw, ite_self]; exact ls_nan hn
      · have hn : (noW w a || noW w b) = true := by rw [na, nb]; rfl
        have hn' : (noW w b || noW w a) = true := by rw [na, nb]; rfl
        refine opT_eq hw g32 (fun h => by subst h; exact ar_nan hn) ?_ ?_ hs (le_nan hn').symm (le_nan hn).symm
        · rw [ad_lib hw]; exact ls_nan hn
        · rw [ad_lib hw]; exact ls_nan hn
      · have hn : (noW w a || noW w b) = true := by rw [na, nb]; rfl
        have hn' : (noW w b || noW w a) = true := by rw [na, nb]; rfl
        refine opT_eq hw g32 (fun h => by subst h; exact ar_nan hn) ?_ ?_ hs (le_nan hn').symm (le_nan hn).symm
        · rw [hw]; exact ls_nan hn
        · rw [hw]; exact ls_nan hn
  · cases h
end Go.L08F
/-!
Chapter 04: operators of two, by the document.
-/
namespace Go.L08F
open Go.Ev Go.Proofs Go.RowKit Go.Wh Go.Fl
open Go.L08

noncomputable def naG (V : Int → BitVec 64) : Ev.Spec := joined fun | [.i .i64 w] => some (.u64 (V w)) | _ => none
theorem nf_na (w : Int) : ex [] (fun _ => []) Tryd.f107 [.i .i64 w] some = if (w == 32) = true then some (.u64 2143289344#64) else some (.u64 9221120237041090560#64) := by kernel_rfl
theorem q_na : Snd 107 (naG naW) := by
  refine Sound.join (execFn_sound (ann := fun _ => []) TableOK.nil mixed Tryd.func107 (by kernel_rfl) 50) fun ds d h => ?_
  split at h
  · rename_i w
    cases h
    refine (nf_na w).trans ?_
    unfold naW
    by_cases hw : w = 32
    · rw [if_pos (by simpa using hw), if_pos hw]
    · rw [if_neg (by simpa using hw), if_neg hw]
  · cases h
theorem q_sig : Snd 72 (sigG sigV) := by
  refine Sound.join (execFn_sound (ann := fun _ => []) TableOK.nil mixed Tryd.func72 (by kernel_rfl) 50) fun ds d h => ?_
  split at h
  · cases h; kernel_rfl
  · cases h
/-! clean -/
noncomputable def cleG (V : Int → BitVec 64 → BitVec 64) (B : Int → (Int → Prop) → Bool) : Ev.Spec := guarded fun | [.i .i64 w, .u64 a] => some (inF w a, .u64 (V w a)) | [.i .i64 w, .xi .u64 p] => some (B w p, .u64 (naW w)) | _ => none
def clV (w : Int) (a : BitVec 64) : BitVec 64 := if noW w a = true then naW w else a
noncomputable def clB (w : Int) (p : Int → Prop) : Bool := @decide (∀ m, p m → ∃ y : BitVec 64, m = (y.toNat : Int) ∧ inF w y = true ∧ noW w y = true) (Classical.propDecidable _)
theorem nf_cle (I : Int → BitVec 64 → Bool) (V : Int → BitVec 64) (w : Int) (a : BitVec 64) : ex [(106, isS I), (107, naG V)] (fun _ => []) Tryd.f105 [.i .i64 w, .u64 a] some = if inF w a = true then if I w a = true then some (.u64 (V w)) else some (.u64 a) else none := by kernel_rfl
theorem p_cle {w : Int} {a : BitVec 64} (h : inF w a = true) : Pt Tryd.prog G0 105 [.i .i64 w, .u64 a] (.u64 (clV w a)) := by
  refine (execFn_sound (P := Tryd.prog) (G := G0) (ann := fun _ => []) (TableOK.cons q_is (TableOK.cons q_na TableOK.nil)) mixed Tryd.func105 (by kernel_rfl) 50).pt ((nf_cle _ _ w a).trans ?_)
  rw [h]
  unfold clV
  cases noW w a <;> rfl
theorem q_cle : Snd 105 (cleG clV clB) := by
  refine Sound.of_ptG fun ds d hd => ?_
  split at hd
  · simp only [Option.some.injEq, Prod.mk.injEq] at hd
    obtain ⟨hi, rfl⟩ := hd
    exact p_cle hi
  · rename_i w p
    simp only [Option.some.injEq, Prod.mk.injEq] at hd
    obtain ⟨hp, rfl⟩ := hd
    have hp' := @of_decide_eq_true _ (Classical.propDecidable _) hp
    intro w0 args hG hl
    simp only [lie, lies] at hl
    obtain ⟨v, t, rfl, rfl, v2, t2, rfl, ⟨m, rfl, hm⟩, rfl⟩ := hl
    obtain ⟨y, rfl, hy, hn⟩ := hp' m hm
    have e : clV w y = naW w := by unfold clV; rw [if_pos hn]
    rw [← e]
    exact p_cle hy w0 _ hG (by simp only [lie, lies]; exact ⟨_, _, rfl, rfl, _, _, rfl, rfl, rfl⟩)
  · cases hd
theorem cl32 : clB 32 (fun m => ∃ n, nanI .f32 n ∧ m = IntKind.u64.wrap n) = true := by
  refine @decide_eq_true _ (Classical.propDecidable _) fun m hm => ?_
  obtain ⟨n, ⟨x, rfl, hx1, hx2⟩, rfl⟩ := hm
  have hlt : x < 4294967296 := hx2
  refine ⟨BitVec.ofNat 64 x, ?_, ?_, ?_⟩
  · rw [BitVec.toNat_ofNat, Nat.mod_eq_of_lt (by omega)]
    show IntKind.wrap .u64 (x : Int) = _
    unfold IntKind.wrap
    simp only [show IntKind.signed .u64 = false from rfl, show IntKind.bits .u64 = 64 from rfl, Bool.false_and, Bool.false_eq_true, if_false]
    omega
  · refine in32 ?_
    rw [BitVec.toNat_ofNat, Nat.mod_eq_of_lt (by omega)]; exact hlt
  · show isN Ieee.single (BitVec.ofNat 64 x).toNat = true
    rw [BitVec.toNat_ofNat, Nat.mod_eq_of_lt (by omega), ← isN_iff two_s]
    exact hx1
theorem cl64 : clB 64 (nanI .f64) = true := by
  refine @decide_eq_true _ (Classical.propDecidable _) fun m hm => ?_
  obtain ⟨x, rfl, hx1, hx2⟩ := hm
  have hlt : x < 2 ^ 64 := hx2
  refine ⟨BitVec.ofNat 64 x, ?_, rfl, ?_⟩
  · rw [BitVec.toNat_ofNat, Nat.mod_eq_of_lt hlt]
  · show isN Ieee.double (BitVec.ofNat 64 x).toNat = true
    rw [BitVec.toNat_ofNat, Nat.mod_eq_of_lt hlt, ← isN_iff two_d]
    exact hx1
/-! sums -/
def ar3S {β : Type} (o : BitVec 8) (x y z u : β) : β := if (o == 1#8) = true then x else if (o == 2#8) = true then y else if (o == 3#8) = true then z else u
theorem ar3_eq {β γ : Type} (k : γ → β) (x y z u : γ) (o : BitVec 8) : ar3S o (k x) (k y) (k z) (k u) = k (if (o == 1#8) = true then x else if (o == 2#8) = true then y else if (o == 3#8) = true then z else u) := by
  unfold ar3S
  split
  · rfl
  · split
    · rfl
    · split <;> rfl
noncomputable def smlG (V : BitVec 8 → BitVec 64 → BitVec 64 → BitVec 64) : Ev.Spec := guarded fun | [.u8 o, .u64 a, .u64 b] => some (inF 32 a && inF 32 b, .u64 (V o a b)) | _ => none
noncomputable def smT (V : Int → BitVec 64 → BitVec 64) (B : Int → (Int → Prop) → Bool) (r : Option Nat) : Option D := match r with
  | some r => if decide (r < 2 ^ 32) = true then (if inF 32 (BitVec.setWidth 64 (BitVec.ofNat 32 r)) = true then some (.u64 (V 32 (BitVec.setWidth 64 (BitVec.ofNat 32 r)))) else none) else none
  | none => if B 32 (fun m => ∃ n, nanI .f32 n ∧ m = IntKind.u64.wrap n) = true then some (.u64 (naW 32)) else none
theorem nf_sml (V : Int → BitVec 64 → BitVec 64) (B : Int → (Int → Prop) → Bool) (o : BitVec 8) (a b : BitVec 64) : ex [(96, to32S), (52, of32S), (105, cleG V B)] (fun _ => []) Tryd.f69 [.u8 o, .u64 a, .u64 b] some =
  ar3S o (smT V B (Ieee.single.add (BitVec.setWidth 32 a).toNat (BitVec.setWidth 32 b).toNat)) (smT V B (Ieee.single.sub (BitVec.setWidth 32 a).toNat (BitVec.setWidth 32 b).toNat)) (smT V B (Ieee.single.mul (BitVec.setWidth 32 a).toNat (BitVec.setWidth 32 b).toNat)) (smT V B (Ieee.single.div (BitVec.setWidth 32 a).toNat (BitVec.setWidth 32 b).toNat)) := by kernel_rfl
theorem sm_cl {r : Option Nat} (h : ∀ x, r = some x → x < 2 ^ 32) : smT clV clB r = some (.u64 (clO 32 r)) := by
  cases r with
  | none =>
    unfold smT
    simp only [cl32, if_true]
    rfl
  | some r =>
    have hlt := h r rfl
    unfold smT clO
    simp only [decide_eq_true hlt, up32 hlt, if_true]
    have et : (BitVec.ofNat 64 r).toNat = r := by rw [BitVec.toNat_ofNat, Nat.mod_eq_of_lt (by omega)]
    have hi : inF 32 (BitVec.ofNat 64 r) = true := in32 (by rw [et]; exact hlt)
    rw [if_pos hi]
    unfold clV
    have hn : noW 32 (BitVec.ofNat 64 r) = isN (fmW 32) r := by unfold noW; rw [et]
    rw [hn]
theorem q_sml : Snd 69 (smlG fun o a b => arW o 32 a b) := by
  refine Sound.guard (execFn_sound (ann := fun _ => []) (TableOK.cons x_to32 (TableOK.cons x_of32 (TableOK.cons q_cle TableOK.nil))) mixed Tryd.func69 (by kernel_rfl) 50) fun ds d h => ?_
  split at h
  · rename_i o a b
    simp only [Option.some.injEq, Prod.mk.injEq, Bool.and_eq_true] at h
    obtain ⟨⟨ha, hb⟩, rfl⟩ := h
    refine (nf_sml _ _ o a b).trans ((ar3_eq (smT clV clB) _ _ _ _ o).trans ?_)
    rw [in_32 ha, in_32 hb]
    exact sm_cl fun x hx => arN_lt two_s o hx
  · cases h
noncomputable def grtG (V : BitVec 8 → BitVec 64 → BitVec 64 → BitVec 64) : Ev.Spec := joined fun | [.u8 o, .u64 a, .u64 b] => some (.u64 (V o a b)) | _ => none
noncomputable def grT (V : Int → BitVec 64 → BitVec 64) (B : Int → (Int → Prop) → Bool) (r : Option Nat) : Option D := match r with
  | some r => if decide (r < 2 ^ 64) = true then (if inF 64 (BitVec.ofNat 64 r) = true then some (.u64 (V 64 (BitVec.ofNat 64 r))) else none) else none
  | none => if B 64 (nanI .f64) = true then some (.u64 (naW 64)) else none
theorem nf_grt (V : Int → BitVec 64 → BitVec 64) (B : Int → (Int → Prop) → Bool) (o : BitVec 8) (a b : BitVec 64) : ex [(97, to64S), (53, of64S), (105, cleG V B)] (fun _ => []) Tryd.f70 [.u8 o, .u64 a, .u64 b] some =
  ar3S o (grT V B (Ieee.double.add a.toNat b.toNat)) (grT V B (Ieee.double.sub a.toNat b.toNat)) (grT V B (Ieee.double.mul a.toNat b.toNat)) (grT V B (Ieee.double.div a.toNat b.toNat)) := by kernel_rfl
theorem gr_cl {r : Option Nat} (h : ∀ x, r = some x → x < 2 ^ 64) : grT clV clB r = some (.u64 (clO 64 r)) := by
  cases r with
  | none =>
    unfold grT
    simp only [cl64, if_true]
    rfl
  | some r =>
    have hlt := h r rfl
    unfold grT clO
    simp only [decide_eq_true hlt, if_true]
    have et : (BitVec.ofNat 64 r).toNat = r := by rw [BitVec.toNat_ofNat, Nat.mod_eq_of_lt hlt]
    have hi : inF 64 (BitVec.ofNat 64 r) = true := rfl
    rw [if_pos hi]
    unfold clV
    have hn : noW 64 (BitVec.ofNat 64 r) = isN (fmW 64) r := by unfold noW; rw [et]
    rw [hn]
theorem q_grt : Snd 70 (grtG fun o a b => arW o 64 a b) := by
  refine Sound.join (execFn_sound (ann := fun _ => []) (TableOK.cons x_to64 (TableOK.cons x_of64 (TableOK.cons q_cle TableOK.nil))) mixed Tryd.func70 (by kernel_rfl) 50) fun ds d h => ?_
  split at h
  · rename_i o a b
    cases h
    refine (nf_grt _ _ o a b).trans ((ar3_eq (grT clV clB) _ _ _ _ o).trans ?_)
    exact gr_cl fun x hx => arN_lt two_d o hx
  · cases h
/-! the least, the greatest -/
noncomputable def lstG (V : WV) : Ev.Spec := guarded fun | [.u8 o, .i .i64 w, .u64 a, .u64 b] => some (inF w a && inF w b, .u64 (V o w a b)) | _ => none
def lsR7 (g l o5 : Bool) (a b : BitVec 64) : Option D := if g = true then if (l == o5) = true then some (.u64 a) else some (.u64 b) else none
def lsR5 (g s l o5 : Bool) (a b : BitVec 64) : Option D := if g = true then if s = true then some (.u64 (a &&& b)) else lsR7 g l o5 a b else none
def lsR3 (g s l o5 : Bool) (a b : BitVec 64) : Option D := if g = true then if s = true then if o5 = true then some (.u64 (a ||| b)) else lsR5 g s l o5 a b else lsR5 g s l o5 a b else none
theorem nf_lst (I : Int → BitVec 64 → Bool) (V : Int → BitVec 64) (L S : Int → BitVec 64 → BitVec 64 → Bool) (o : BitVec 8) (w : Int) (a b : BitVec 64) : ex [(106, isS I), (107, naG V), (73, lesS L), (75, lesS S)] (fun _ => []) Tryd.f71 [.u8 o, .i .i64 w, .u64 a, .u64 b] some =
  if inF w a = true then if I w a = false then if inF w b = true then if I w b = true then some (.u64 (V w)) else lsR3 (inF w a && inF w b) (S w a b) (L w a b) (o == 5#8) a b else none else some (.u64 (V w)) else none := by kernel_rfl
theorem q_lst : Snd 71 (lstG fun o w a b => lsW (o == 5#8) w a b) := by
  refine Sound.guard (execFn_sound (ann := fun _ => []) (TableOK.cons q_is (TableOK.cons q_na (TableOK.cons q_less (TableOK.cons q_same TableOK.nil)))) mixed Tryd.func71 (by kernel_rfl) 50) fun ds d h => ?_
  split at h
  · rename_i o w a b
    simp only [Option.some.injEq, Prod.mk.injEq, Bool.and_eq_true] at h
    obtain ⟨⟨ha, hb⟩, rfl⟩ := h
    refine (nf_lst _ _ _ _ o w a b).trans ?_
    rw [ha, hb]
    unfold lsW lsR3 lsR5 lsR7 eqW leW
    cases noW w a <;> cases noW w b <;> first | rfl | skip
    simp only [Bool.not_false, Bool.true_and, Bool.and_self, Bool.or_self, Bool.false_eq_true, if_true, if_false]
    cases (keW w a == keW w b)
    · simp only [Bool.false_eq_true, if_false]
      split <;> rfl
    · simp only [if_true]
      cases (o == 5#8) <;> rfl
  · cases h
/-! operators of two -/
def rqT (W : Bool) (Fa Fb : Bool) (x : Option D) : Option D := if (!W) = false then if (!Fa) = false then if (!Fb) = true then some (.tup [.u64 0#64, .i .i64 2]) else x else some (.tup [.u64 0#64, .i .i64 2]) else some (.tup [.u64 0#64, .i .i64 2])
def rpT (o : BitVec 8) (w : Int) (a b : BitVec 64) (gs : Bool) (v32 v64 : BitVec 64) (gl : Bool) (ls : BitVec 64) (cs : BitVec 64) (gb : Bool) (pm px : Bool) : Option D :=
  ar4S o (if (w == 32) = true then (if gs = true then okT v32 else none) else okT v64) (if (w == 32) = true then (if gs = true then okT v32 else none) else okT v64) (if (w == 32) = true then (if gs = true then okT v32 else none) else okT v64) (if (w == 32) = true then (if gs = true then okT v32 else none) else okT v64)
    (if (o == 5#8) = true then (if gl = true then okT ls else none) else if (o == 6#8) = true then (if gl = true then okT ls else none) else if (o == 7#8) = true then okT cs
      else if (o == 8#8) = true then (if gb = true then (if pm = true then okT b else okT a) else none) else if (o == 9#8) = true then (if gl = true then (if px = true then okT b else okT a) else none) else some (.tup [.u64 0#64, .i .i64 2]))
theorem nf_rtwo (W : Int → Bool) (F : Int → BitVec 64 → Bool) (V32 V64 : BitVec 8 → BitVec 64 → BitVec 64 → BitVec 64) (Q : WV) (S : Int → BitVec 64) (L : Int → BitVec 64 → BitVec 64 → Bool) (o : BitVec 8) (w : Int) (a b : BitVec 64) :
  ex [(30, wiG W), (68, fiG F), (69, smlG V32), (70, grtG V64), (71, lstG Q), (72, sigG S), (73, lesS L)] (fun _ => []) Tryd.f32 [.u8 o, .i .i64 w, .u64 a, .u64 b] some =
  rqT (W w) (F w a) (F w b) (rpT o w a b (inF 32 a && inF 32 b) (V32 o a b) (V64 o a b) (inF w a && inF w b) (Q o w a b) (a &&& ~~~(S w) ||| b &&& S w) (inF w b && inF w a) (L w b a) (L w a b)) := by kernel_rfl
theorem rpT_eq {o : BitVec 8} {w : Int} {a b : BitVec 64} (ha : inF w a = true) (hb : inF w b = true) : rpT o w a b (inF 32 a && inF 32 b) (arW o 32 a b) (arW o 64 a b) (inF w a && inF w b) (lsW (o == 5#8) w a b) (a &&& ~~~(sigV w) ||| b &&& sigV w) (inF w b && inF w a) (leW w b a) (leW w a b)
    = some (.tup [.u64 (twW o w a b), .i .i64 (twE o)]) := by
  have hw := in_ok ha
  rw [sig_W hw, ha, hb]
  have har : (if (w == 32) = true then (if (inF 32 a && inF 32 b) = true then okT (arW o 32 a b) else none) else okT (arW o 64 a b)) = okT (arW o w a b) := by
    rcases wOK_cases hw with rfl | rfl
    · rw [ha, hb]; rfl
    · rfl
  unfold rpT
  rw [har]
  unfold ar4S twW twE
  generalize (o == 1#8) = c1
  generalize (o == 2#8) = c2
  generalize (o == 3#8) = c3
  generalize (o == 4#8) = c4
  generalize (o == 5#8) = c5
  generalize (o == 6#8) = c6
  generalize (o == 7#8) = c7
  generalize (o == 8#8) = c8
  generalize (o == 9#8) = c9
  cases c1 <;> first | rfl | skip
  cases c2 <;> first | rfl | skip
  cases c3 <;> first | rfl | skip
  cases c4 <;> first | rfl | skip
  cases c5 <;> first | rfl | skip
  cases c6 <;> first | rfl | skip
  cases c7 <;> first | rfl | skip
  cases c8
  · cases c9
    · rfl
    · cases leW w a b <;> rfl
  · cases leW w b a <;> rfl
theorem f_rtwo : Snd 32 (twoG ftwV ftwE) := by
  refine Sound.join (execFn_sound (ann := fun _ => []) (TableOK.cons q_W (TableOK.cons q_F (TableOK.cons q_sml (TableOK.cons q_grt (TableOK.cons q_lst (TableOK.cons q_sig (TableOK.cons q_less TableOK.nil))))))) mixed Tryd.func32 (by kernel_rfl) 50) fun ds d h => ?_
  split at h
  · rename_i o w a b
    cases h
    refine (nf_rtwo _ _ _ _ _ _ _ o w a b).trans ?_
    cases hm : maW w [a, b]
    · unfold ftwV ftwE
      rw [hm]
      unfold maW at hm
      simp only [List.all_cons, List.all_nil, Bool.and_true] at hm
      unfold rqT
      revert hm
      cases wOK w <;> cases fiW w a <;> cases fiW w b <;> intro hm <;> first | rfl | cases hm
    · obtain ⟨ia, ib⟩ := maW2 hm
      refine Eq.trans ?_ (okT_tw hm)
      rw [rpT_eq ia ib]
      unfold inF at ia ib
      rw [Bool.and_eq_true] at ia ib
      rw [ia.1, ia.2, ib.2]; rfl
  · cases h
end Go.L08F

/-
  Part of the proof; what its functions and lemmas say stands in the text.
-/
import Derived.Test.YtnbafdmlfpmfkaaGreatDoorV23A
import Derived.Test.YtnbafdmlfpmfkaaGreatDoorEvE
set_option linter.unusedSimpArgs false
set_option linter.unusedVariables false
namespace Go.L23
open Go.Ev Go.Proofs Go.RowKit Go.Rt
open Go.Wh
theorem Snd.restrict {f : Nat} {s s' : Ev.Spec} (hs : Snd f s) (h : ∀ ds K r, s' ds K = some r → s ds K = some r) : Snd f s' := fun ds K r hK => hs ds K r (h ds K r hK)
noncomputable def isNoS : Ev.Spec := guarded fun | [.i .i64 t, .u64 x] => some (!isF t x, .bool false) | _ => none
theorem isNo40 : Snd 80 isNoS := is40.restrict fun ds K r h => by
 unfold isNoS guarded at h
 simp only [] at h
 split at h
 ·rename_i b d hd
  split at hd
  ·cases hd
   split at h
   ·rename_i t x hb
    have : isF t x = false := by simpa using hb
    simp only [isS, joined, this]
    exact h
   ·cases h
  ·cases hd
 ·cases h
def dbl (x : BitVec 64) (k : Nat) : BitVec 64 := x ||| x <<< k
def splW (t : Int) (x : BitVec 64) : BitVec 64 :=
 if t = 8 then dbl (dbl (dbl x 8) 16) 32 else if t = 16 then dbl (dbl x 16) 32 else if t = 32 then dbl x 32 else x
noncomputable def SplS : Ev.Spec := joined fun | [.i .i64 t, .u64 x] => some (.tup [vec (ifF (isF t x) (splW t x)) (ifF (isF t x) (splW t x)), .i .i64 (errF (isF t x))]) | _ => none
def ann23 : Nat → List Nat := fun | 3 => [0, 1, 4] | _ => []
theorem spl23no (t : Int) (x : BitVec 64) : ex [(80, isNoS)] ann23 Tryz.f31 [.i .i64 t, .u64 x] some = if (!isF t x) = true then some (.tup [vec 0#64 0#64, .i .i64 2]) else none := by kernel_rfl
abbrev Spl23at (t : Int) : Prop := ∀ x, ex [(80, isS)] ann23 Tryz.f31 [.i .i64 t, .u64 x] some = if (!isF t x) = true then some (.tup [vec 0#64 0#64, .i .i64 2]) else some (.tup [vec (splW t x) (splW t x), .i .i64 0])
theorem spl23_8 : Spl23at 8 := fun x => by kernel_rfl
theorem spl23_16 : Spl23at 16 := fun x => by kernel_rfl
theorem spl23_32 : Spl23at 32 := fun x => by kernel_rfl
theorem spl23_64 : Spl23at 64 := fun x => by kernel_rfl
theorem Spl23 : Snd 31 SplS := by
 intro ds K r hK
 by_cases hok : ∃ t x, ds = [.i .i64 t, .u64 x] ∧ isF t x = true
 ·have hS : Snd 31 (guarded fun
   | [.i .i64 t, .u64 x] => some (isF t x, .tup [vec (splW t x) (splW t x), .i .i64 0])
   | _ => none) := by
   refine Sound.guard (execFn_sound (ann := ann23) (TableOK.cons is40 TableOK.nil) mixed Tryz.func31 (by kernel_rfl) 50) fun ds d h => ?_
   split at h
   ·rename_i t x
    simp only [Option.some.injEq, Prod.mk.injEq] at h
    obtain ⟨h, rfl⟩ := h
    have hw : okW t = true := by
     unfold isF at h
     rw [Bool.and_eq_true] at h
     exact h.1
    have key : Spl23at t := by
     rcases okW_cases hw with rfl | rfl | rfl | rfl
     ·exact spl23_8
     ·exact spl23_16
     ·exact spl23_32
     ·exact spl23_64
    refine (key x).trans ?_
    rw [h]; rfl
   ·cases h
  obtain ⟨t, x, rfl, h⟩ := hok
  refine hS _ K r ?_
  simp only [SplS, joined, h] at hK
  simp only [guarded, h]
  exact hK
 ·have hS : Snd 31 (guarded fun
   | [.i .i64 t, .u64 x] => some (!isF t x, .tup [vec 0#64 0#64, .i .i64 2])
   | _ => none) := by
   refine Sound.guard (execFn_sound (ann := ann23) (TableOK.cons isNo40 TableOK.nil) mixed Tryz.func31 (by kernel_rfl) 50) fun ds d h => ?_
   split at h
   ·rename_i t x
    simp only [Option.some.injEq, Prod.mk.injEq] at h
    obtain ⟨h, rfl⟩ := h
    refine (spl23no t x).trans ?_
    rw [h]; rfl
   ·cases h
  refine hS _ K r ?_
  simp only [SplS, joined] at hK
  simp only [guarded]
  split at hK
  ·rename_i d hd
   split at hd
   ·rename_i t x
    have h : isF t x = false := by
     rw [← Bool.not_eq_true]
     intro h; exact hok ⟨t, x, rfl, h⟩
    cases hd
    rw [h] at hK
    simp only [h]
    exact hK
   ·cases hd
  ·cases hK
end Go.L23
namespace Go.L23
open Go.Ev Go.Proofs Go.RowKit Go.Rt
open Go.Wh
abbrev nilS : D := .c (.slice none 0 0)
def allF : List D → Option (Bool × D × D)
 | [.agg [.u64 x, .u64 y], .i .i64 w] => some (okW w, .tup [.sl64 (listF x y w), .i .i64 0], .tup [nilS, .i .i64 2])
 | _ => none
def ann28 : Nat → List Nat := fun | 5 => [1, 2, 6, 15, 16] | _ => []
theorem all28_8 (x y : BitVec 64) : ex [(80, isS), (99, getS)] ann28 Tryz.f182 [vec x y, .i .i64 8] some = some (.tup [.sl64 (listF x y 8), .i .i64 0]) := by kernel_rfl
theorem all28_16 (x y : BitVec 64) : ex [(80, isS), (99, getS)] ann28 Tryz.f182 [vec x y, .i .i64 16] some = some (.tup [.sl64 (listF x y 16), .i .i64 0]) := by kernel_rfl
theorem all28_32 (x y : BitVec 64) : ex [(80, isS), (99, getS)] ann28 Tryz.f182 [vec x y, .i .i64 32] some = some (.tup [.sl64 (listF x y 32), .i .i64 0]) := by kernel_rfl
theorem all28_64 (x y : BitVec 64) : ex [(80, isS), (99, getS)] ann28 Tryz.f182 [vec x y, .i .i64 64] some = some (.tup [.sl64 (listF x y 64), .i .i64 0]) := by kernel_rfl
theorem All28 : Snd 182 (two allF) := by
 refine Sound.both ?_ ?_
 ·refine Sound.guard (execFn_sound (ann := ann28) (TableOK.cons is40 (TableOK.cons get41 TableOK.nil)) mixed Tryz.func182 (by kernel_rfl) 50) fun ds d h => ?_
  unfold allF at h
  split at h
  ·rename_i b d' e' hF
   split at hF
   ·rename_i x y w
    cases hF
    simp only [Option.some.injEq, Prod.mk.injEq] at h
    obtain ⟨h, rfl⟩ := h
    rcases okW_cases h with rfl | rfl | rfl | rfl
    ·exact all28_8 x y
    ·exact all28_16 x y
    ·exact all28_32 x y
    ·exact all28_64 x y
   ·cases hF
  ·cases h
 ·refine Sound.guard (execFn_sound (ann := ann28) (TableOK.cons isNo40 TableOK.nil) mixed Tryz.func182 (by kernel_rfl) 50) fun ds d h => ?_
  unfold allF at h
  split at h
  ·rename_i b d' e' hF
   split at hF
   ·rename_i x y w
    cases hF
    simp only [Option.some.injEq, Prod.mk.injEq] at h
    obtain ⟨h, rfl⟩ := h
    have nf : ex [(80, isNoS)] ann28 Tryz.f182 [vec x y, .i .i64 w] some = if (!isF w 0#64) = true then some (.tup [nilS, .i .i64 2]) else none := by kernel_rfl
    refine nf.trans ?_
    rw [isF_zero, if_pos h]
   ·cases hF
  ·cases h
end Go.L23
namespace Go.L23
open Go.Ev Go.Proofs Go.RowKit Go.Rt
open Go.Wh
def okOf (w : Int) (l : List (BitVec 64)) : Bool := okW w && decide (l.length = (128 / w).toNat) && l.all (fun z => decide (z ≤ maskF w))
def ofF : List D → Option (Bool × D × D)
 | [.i .i64 w, .sl64 l] => some (okOf w l, .tup [vec (vecF w l).1 (vecF w l).2, .i .i64 0], .tup [vec 0#64 0#64, .i .i64 2])
 | [.i .i64 w, .c (.slice none 0 0)] => some (false, .tup [vec 0#64 0#64, .i .i64 2], .tup [vec 0#64 0#64, .i .i64 2])
 | _ => none
noncomputable def isYesS : Ev.Spec := guarded fun | [.i .i64 t, .u64 x] => some (isF t x, .bool true) | _ => none
theorem isYes40 : Snd 80 isYesS := is40.restrict fun ds K r h => by
 unfold isYesS guarded at h
 dsimp only at h
 split at h
 ·rename_i b d hd
  split at hd
  ·cases hd
   split at h
   ·rename_i t x hb
    simp only [isS, joined, hb]
    exact h
   ·cases h
  ·cases hd
 ·cases h
def chainG : List Bool → Option D → Option D
 | [], a => a
 | b :: l, a => if b = true then chainG l a else none
theorem chainG_ok : ∀ {l : List Bool} {a : Option D}, (∀ b ∈ l, b = true) → chainG l a = a
 | [], a, _ => rfl
 | b :: l, a, h => by
  simp only [chainG]
  rw [if_pos (h b List.mem_cons_self)]
  exact chainG_ok fun c hc => h c (List.mem_cons_of_mem _ hc)
def chainE : List Bool → Option D → Option D → Option D
 | [], _, a => a
 | b :: l, e, a => if (!b) = true then e else chainE l e a
theorem chainE_no : ∀ {l : List Bool} {e a : Option D}, ¬ (∀ b ∈ l, b = true) → chainE l e a = e
 | [], e, a, h => absurd (fun b hb => by cases hb) h
 | b :: l, e, a, h => by
  simp only [chainE]
  cases b
  ·simp
  ·simp only [Bool.not_true, Bool.false_eq_true, if_false]
   exact chainE_no fun hl => h fun c hc => by
    rcases List.mem_cons.1 hc with rfl | hc
    ·rfl
    ·exact hl c hc
def atW (z0 z1 z2 z3 z4 z5 z6 z7 : BitVec 64) : Nat → BitVec 64
 | 0 => z0 | 1 => z1 | 2 => z2 | 3 => z3 | 4 => z4 | 5 => z5 | 6 => z6 | 7 => z7
 | _ => 0#64
section
variable (z0 z1 z2 z3 z4 z5 z6 z7 : BitVec 64)
instance : Rf (atW z0 z1 z2 z3 z4 z5 z6 z7) z0 := ⟨.atom 0, rfl⟩
instance : Rf (atW z0 z1 z2 z3 z4 z5 z6 z7) z1 := ⟨.atom 1, rfl⟩
instance : Rf (atW z0 z1 z2 z3 z4 z5 z6 z7) z2 := ⟨.atom 2, rfl⟩
instance : Rf (atW z0 z1 z2 z3 z4 z5 z6 z7) z3 := ⟨.atom 3, rfl⟩
instance : Rf (atW z0 z1 z2 z3 z4 z5 z6 z7) z4 := ⟨.atom 4, rfl⟩
instance : Rf (atW z0 z1 z2 z3 z4 z5 z6 z7) z5 := ⟨.atom 5, rfl⟩
instance : Rf (atW z0 z1 z2 z3 z4 z5 z6 z7) z6 := ⟨.atom 6, rfl⟩
instance : Rf (atW z0 z1 z2 z3 z4 z5 z6 z7) z7 := ⟨.atom 7, rfl⟩
end
def ann30 : Nat → List Nat := fun | 5 => [0, 4, 6, 20, 21, 22] | _ => []
theorem of_route8 (z0 z1 z2 z3 z4 z5 z6 z7 : BitVec 64) : put (put (put (put (put (put (put (put 0#64 (maskF 8) 0 (z0 &&& maskF 8)) (maskF 8) 8 (z1 &&& maskF 8)) (maskF 8) 16 (z2 &&& maskF 8)) (maskF 8) 24 (z3 &&& maskF 8)) (maskF 8) 32 (z4 &&& maskF 8)) (maskF 8) 40 (z5 &&& maskF 8)) (maskF 8) 48 (z6 &&& maskF 8)) (maskF 8) 56 (z7 &&& maskF 8) = asm [bt (z0 &&& maskF 8) 0, bt (z1 &&& maskF 8) 0, bt (z2 &&& maskF 8) 0, bt (z3 &&& maskF 8) 0, bt (z4 &&& maskF 8) 0, bt (z5 &&& maskF 8) 0, bt (z6 &&& maskF 8) 0, bt (z7 &&& maskF 8) 0] := route (ρ := atW z0 z1 z2 z3 z4 z5 z6 z7) (by kernel_rfl)
theorem of30_8 (z0 z1 z2 z3 z4 z5 z6 z7 z8 z9 z10 z11 z12 z13 z14 z15 : BitVec 64) : ex [(80, isYesS), (81, setC)] ann30 Tryz.f79 [.i .i64 8, .sl64 [z0, z1, z2, z3, z4, z5, z6, z7, z8, z9, z10, z11, z12, z13, z14, z15]] some = chainG [isF 8 0#64, isF 8 z0, isF 8 z1, isF 8 z2, isF 8 z3, isF 8 z4, isF 8 z5, isF 8 z6, isF 8 z7, isF 8 z8, isF 8 z9, isF 8 z10, isF 8 z11, isF 8 z12, isF 8 z13, isF 8 z14, isF 8 z15] (some (.tup [vec (put (put (put (put (put (put (put (put 0#64 (maskF 8) 0 z0) (maskF 8) 8 z1) (maskF 8) 16 z2) (maskF 8) 24 z3) (maskF 8) 32 z4) (maskF 8) 40 z5) (maskF 8) 48 z6) (maskF 8) 56 z7) (put (put (put (put (put (put (put (put 0#64 (maskF 8) 0 z8) (maskF 8) 8 z9) (maskF 8) 16 z10) (maskF 8) 24 z11) (maskF 8) 32 z12) (maskF 8) 40 z13) (maskF 8) 48 z14) (maskF 8) 56 z15), .i .i64 0])) := by kernel_rfl
theorem of30e_8 (z0 z1 z2 z3 z4 z5 z6 z7 z8 z9 z10 z11 z12 z13 z14 z15 : BitVec 64) : ex [(80, isS), (81, setC)] ann30 Tryz.f79 [.i .i64 8, .sl64 [z0, z1, z2, z3, z4, z5, z6, z7, z8, z9, z10, z11, z12, z13, z14, z15]] some = chainE [isF 8 z0, isF 8 z1, isF 8 z2, isF 8 z3, isF 8 z4, isF 8 z5, isF 8 z6, isF 8 z7, isF 8 z8, isF 8 z9, isF 8 z10, isF 8 z11, isF 8 z12, isF 8 z13, isF 8 z14, isF 8 z15] (some (.tup [vec 0#64 0#64, .i .i64 2])) (some (.tup [vec (put (put (put (put (put (put (put (put 0#64 (maskF 8) 0 z0) (maskF 8) 8 z1) (maskF 8) 16 z2) (maskF 8) 24 z3) (maskF 8) 32 z4) (maskF 8) 40 z5) (maskF 8) 48 z6) (maskF 8) 56 z7) (put (put (put (put (put (put (put (put 0#64 (maskF 8) 0 z8) (maskF 8) 8 z9) (maskF 8) 16 z10) (maskF 8) 24 z11) (maskF 8) 32 z12) (maskF 8) 40 z13) (maskF 8) 48 z14) (maskF 8) 56 z15), .i .i64 0])) := by kernel_rfl
theorem of30l_8 (l : List (BitVec 64)) : ex [(80, isS)] (fun _ => []) Tryz.f79 [.i .i64 8, .sl64 l] some = if (!((l.length : Int) == 16)) = true then some (.tup [vec 0#64 0#64, .i .i64 2]) else none := by kernel_rfl
theorem of30n_8 : ex [(80, isS)] ann30 Tryz.f79 [.i .i64 8, nilS] some = some (.tup [vec 0#64 0#64, .i .i64 2]) := by kernel_rfl
theorem of_route16 (z0 z1 z2 z3 : BitVec 64) : put (put (put (put 0#64 (maskF 16) 0 (z0 &&& maskF 16)) (maskF 16) 16 (z1 &&& maskF 16)) (maskF 16) 32 (z2 &&& maskF 16)) (maskF 16) 48 (z3 &&& maskF 16) = asm [bt (z0 &&& maskF 16) 0, bt (z0 &&& maskF 16) 8, bt (z1 &&& maskF 16) 0, bt (z1 &&& maskF 16) 8, bt (z2 &&& maskF 16) 0, bt (z2 &&& maskF 16) 8, bt (z3 &&& maskF 16) 0, bt (z3 &&& maskF 16) 8] := route (ρ := atW z0 z1 z2 z3 0#64 0#64 0#64 0#64) (by kernel_rfl)
theorem of30_16 (z0 z1 z2 z3 z4 z5 z6 z7 : BitVec 64) : ex [(80, isYesS), (81, setC)] ann30 Tryz.f79 [.i .i64 16, .sl64 [z0, z1, z2, z3, z4, z5, z6, z7]] some = chainG [isF 16 0#64, isF 16 z0, isF 16 z1, isF 16 z2, isF 16 z3, isF 16 z4, isF 16 z5, isF 16 z6, isF 16 z7] (some (.tup [vec (put (put (put (put 0#64 (maskF 16) 0 z0) (maskF 16) 16 z1) (maskF 16) 32 z2) (maskF 16) 48 z3) (put (put (put (put 0#64 (maskF 16) 0 z4) (maskF 16) 16 z5) (maskF 16) 32 z6) (maskF 16) 48 z7), .i .i64 0])) := by kernel_rfl
theorem of30e_16 (z0 z1 z2 z3 z4 z5 z6 z7 : BitVec 64) : ex [(80, isS), (81, setC)] ann30 Tryz.f79 [.i .i64 16, .sl64 [z0, z1, z2, z3, z4, z5, z6, z7]] some = chainE [isF 16 z0, isF 16 z1, isF 16 z2, isF 16 z3, isF 16 z4, isF 16 z5, isF 16 z6, isF 16 z7] (some (.tup [vec 0#64 0#64, .i .i64 2])) (some (.tup [vec (put (put (put (put 0#64 (maskF 16) 0 z0) (maskF 16) 16 z1) (maskF 16) 32 z2) (maskF 16) 48 z3) (put (put (put (put 0#64 (maskF 16) 0 z4) (maskF 16) 16 z5) (maskF 16) 32 z6) (maskF 16) 48 z7), .i .i64 0])) := by kernel_rfl
theorem of30l_16 (l : List (BitVec 64)) : ex [(80, isS)] (fun _ => []) Tryz.f79 [.i .i64 16, .sl64 l] some = if (!((l.length : Int) == 8)) = true then some (.tup [vec 0#64 0#64, .i .i64 2]) else none := by kernel_rfl
theorem of30n_16 : ex [(80, isS)] ann30 Tryz.f79 [.i .i64 16, nilS] some = some (.tup [vec 0#64 0#64, .i .i64 2]) := by kernel_rfl
theorem of_route32 (z0 z1 : BitVec 64) : put (put 0#64 (maskF 32) 0 (z0 &&& maskF 32)) (maskF 32) 32 (z1 &&& maskF 32) = asm [bt (z0 &&& maskF 32) 0, bt (z0 &&& maskF 32) 8, bt (z0 &&& maskF 32) 16, bt (z0 &&& maskF 32) 24, bt (z1 &&& maskF 32) 0, bt (z1 &&& maskF 32) 8, bt (z1 &&& maskF 32) 16, bt (z1 &&& maskF 32) 24] := route (ρ := atW z0 z1 0#64 0#64 0#64 0#64 0#64 0#64) (by kernel_rfl)
theorem of30_32 (z0 z1 z2 z3 : BitVec 64) : ex [(80, isYesS), (81, setC)] ann30 Tryz.f79 [.i .i64 32, .sl64 [z0, z1, z2, z3]] some = chainG [isF 32 0#64, isF 32 z0, isF 32 z1, isF 32 z2, isF 32 z3] (some (.tup [vec (put (put 0#64 (maskF 32) 0 z0) (maskF 32) 32 z1) (put (put 0#64 (maskF 32) 0 z2) (maskF 32) 32 z3), .i .i64 0])) := by kernel_rfl
theorem of30e_32 (z0 z1 z2 z3 : BitVec 64) : ex [(80, isS), (81, setC)] ann30 Tryz.f79 [.i .i64 32, .sl64 [z0, z1, z2, z3]] some = chainE [isF 32 z0, isF 32 z1, isF 32 z2, isF 32 z3] (some (.tup [vec 0#64 0#64, .i .i64 2])) (some (.tup [vec (put (put 0#64 (maskF 32) 0 z0) (maskF 32) 32 z1) (put (put 0#64 (maskF 32) 0 z2) (maskF 32) 32 z3), .i .i64 0])) := by kernel_rfl
theorem of30l_32 (l : List (BitVec 64)) : ex [(80, isS)] (fun _ => []) Tryz.f79 [.i .i64 32, .sl64 l] some = if (!((l.length : Int) == 4)) = true then some (.tup [vec 0#64 0#64, .i .i64 2]) else none := by kernel_rfl
theorem of30n_32 : ex [(80, isS)] ann30 Tryz.f79 [.i .i64 32, nilS] some = some (.tup [vec 0#64 0#64, .i .i64 2]) := by kernel_rfl
theorem of_route64 (z0 : BitVec 64) : put 0#64 (maskF 64) 0 (z0 &&& maskF 64) = asm [bt (z0 &&& maskF 64) 0, bt (z0 &&& maskF 64) 8, bt (z0 &&& maskF 64) 16, bt (z0 &&& maskF 64) 24, bt (z0 &&& maskF 64) 32, bt (z0 &&& maskF 64) 40, bt (z0 &&& maskF 64) 48, bt (z0 &&& maskF 64) 56] := route (ρ := atW z0 0#64 0#64 0#64 0#64 0#64 0#64 0#64) (by kernel_rfl)
theorem of30_64 (z0 z1 : BitVec 64) : ex [(80, isYesS), (81, setC)] ann30 Tryz.f79 [.i .i64 64, .sl64 [z0, z1]] some = chainG [isF 64 0#64, isF 64 z0, isF 64 z1] (some (.tup [vec (put 0#64 (maskF 64) 0 z0) (put 0#64 (maskF 64) 0 z1), .i .i64 0])) := by kernel_rfl
theorem of30e_64 (z0 z1 : BitVec 64) : ex [(80, isS), (81, setC)] ann30 Tryz.f79 [.i .i64 64, .sl64 [z0, z1]] some = chainE [isF 64 z0, isF 64 z1] (some (.tup [vec 0#64 0#64, .i .i64 2])) (some (.tup [vec (put 0#64 (maskF 64) 0 z0) (put 0#64 (maskF 64) 0 z1), .i .i64 0])) := by kernel_rfl
theorem of30l_64 (l : List (BitVec 64)) : ex [(80, isS)] (fun _ => []) Tryz.f79 [.i .i64 64, .sl64 l] some = if (!((l.length : Int) == 2)) = true then some (.tup [vec 0#64 0#64, .i .i64 2]) else none := by kernel_rfl
theorem of30n_64 : ex [(80, isS)] ann30 Tryz.f79 [.i .i64 64, nilS] some = some (.tup [vec 0#64 0#64, .i .i64 2]) := by kernel_rfl
end Go.L23
namespace Go.L23
open Go.Ev Go.Proofs Go.RowKit Go.Rt
open Go.Wh
abbrev ofErr : D := .tup [vec 0#64 0#64, .i .i64 2]
theorem okOf_cases {w : Int} {l : List (BitVec 64)} (h : okOf w l = true) : okW w = true ∧ l.length = (128 / w).toNat ∧ ∀ z ∈ l, z ≤ maskF w := by
 simp only [okOf, Bool.and_eq_true, decide_eq_true_eq, List.all_eq_true] at h
 exact ⟨h.1.1, h.1.2, h.2⟩
theorem isF_yes {w : Int} {z : BitVec 64} (hw : okW w = true) (hz : z ≤ maskF w) : isF w z = true := by simp [isF, hw, hz]
theorem of30ok_8 (l : List (BitVec 64)) (hl : l.length = 16) (hz : ∀ z ∈ l, z ≤ maskF 8) : ex [(80, isYesS), (81, setC)] ann30 Tryz.f79 [.i .i64 8, .sl64 l] some = some (.tup [vec (vecF 8 l).1 (vecF 8 l).2, .i .i64 0]) := by
 have hw : okW 8 = true := by decide
 obtain ⟨z0, l0, rfl, h0⟩ := len_cons hl
 obtain ⟨z1, l1, rfl, h1⟩ := len_cons h0
 obtain ⟨z2, l2, rfl, h2⟩ := len_cons h1
 obtain ⟨z3, l3, rfl, h3⟩ := len_cons h2
 obtain ⟨z4, l4, rfl, h4⟩ := len_cons h3
 obtain ⟨z5, l5, rfl, h5⟩ := len_cons h4
 obtain ⟨z6, l6, rfl, h6⟩ := len_cons h5
 obtain ⟨z7, l7, rfl, h7⟩ := len_cons h6
 obtain ⟨z8, l8, rfl, h8⟩ := len_cons h7
 obtain ⟨z9, l9, rfl, h9⟩ := len_cons h8
 obtain ⟨z10, l10, rfl, h10⟩ := len_cons h9
 obtain ⟨z11, l11, rfl, h11⟩ := len_cons h10
 obtain ⟨z12, l12, rfl, h12⟩ := len_cons h11
 obtain ⟨z13, l13, rfl, h13⟩ := len_cons h12
 obtain ⟨z14, l14, rfl, h14⟩ := len_cons h13
 obtain ⟨z15, l15, rfl, h15⟩ := len_cons h14
 obtain rfl := len_nil h15
 have f0 : z0 ≤ maskF 8 := hz z0 (by simp)
 have f1 : z1 ≤ maskF 8 := hz z1 (by simp)
 have f2 : z2 ≤ maskF 8 := hz z2 (by simp)
 have f3 : z3 ≤ maskF 8 := hz z3 (by simp)
 have f4 : z4 ≤ maskF 8 := hz z4 (by simp)
 have f5 : z5 ≤ maskF 8 := hz z5 (by simp)
 have f6 : z6 ≤ maskF 8 := hz z6 (by simp)
 have f7 : z7 ≤ maskF 8 := hz z7 (by simp)
 have f8 : z8 ≤ maskF 8 := hz z8 (by simp)
 have f9 : z9 ≤ maskF 8 := hz z9 (by simp)
 have f10 : z10 ≤ maskF 8 := hz z10 (by simp)
 have f11 : z11 ≤ maskF 8 := hz z11 (by simp)
 have f12 : z12 ≤ maskF 8 := hz z12 (by simp)
 have f13 : z13 ≤ maskF 8 := hz z13 (by simp)
 have f14 : z14 ≤ maskF 8 := hz z14 (by simp)
 have f15 : z15 ≤ maskF 8 := hz z15 (by simp)
 refine (of30_8 z0 z1 z2 z3 z4 z5 z6 z7 z8 z9 z10 z11 z12 z13 z14 z15).trans ?_
 rw [chainG_ok (by
  intro b hb
  simp only [List.mem_cons, List.not_mem_nil, or_false] at hb
  rcases hb with rfl | rfl | rfl | rfl | rfl | rfl | rfl | rfl | rfl | rfl | rfl | rfl | rfl | rfl | rfl | rfl | rfl
  ·rw [isF_zero]; exact hw
  ·exact isF_yes hw f0
  ·exact isF_yes hw f1
  ·exact isF_yes hw f2
  ·exact isF_yes hw f3
  ·exact isF_yes hw f4
  ·exact isF_yes hw f5
  ·exact isF_yes hw f6
  ·exact isF_yes hw f7
  ·exact isF_yes hw f8
  ·exact isF_yes hw f9
  ·exact isF_yes hw f10
  ·exact isF_yes hw f11
  ·exact isF_yes hw f12
  ·exact isF_yes hw f13
  ·exact isF_yes hw f14
  ·exact isF_yes hw f15
  )]
 have e : ∀ {a b c d : BitVec 64}, a = c → b = d → (some (D.tup [vec a b, .i .i64 0]) : Option D) = some (D.tup [vec c d, .i .i64 0]) := by
  intro a b c d h1 h2; rw [h1, h2]
 refine e ?_ ?_
 ·rw [and_fit hw f0, and_fit hw f1, and_fit hw f2, and_fit hw f3, and_fit hw f4, and_fit hw f5, and_fit hw f6, and_fit hw f7]
  exact (of_route8 z0 z1 z2 z3 z4 z5 z6 z7).trans (by rw [← and_fit hw f0, ← and_fit hw f1, ← and_fit hw f2, ← and_fit hw f3, ← and_fit hw f4, ← and_fit hw f5, ← and_fit hw f6, ← and_fit hw f7]; rfl)
 ·rw [and_fit hw f8, and_fit hw f9, and_fit hw f10, and_fit hw f11, and_fit hw f12, and_fit hw f13, and_fit hw f14, and_fit hw f15]
  exact (of_route8 z8 z9 z10 z11 z12 z13 z14 z15).trans (by rw [← and_fit hw f8, ← and_fit hw f9, ← and_fit hw f10, ← and_fit hw f11, ← and_fit hw f12, ← and_fit hw f13, ← and_fit hw f14, ← and_fit hw f15]; rfl)
theorem of30ok_16 (l : List (BitVec 64)) (hl : l.length = 8) (hz : ∀ z ∈ l, z ≤ maskF 16) : ex [(80, isYesS), (81, setC)] ann30 Tryz.f79 [.i .i64 16, .sl64 l] some = some (.tup [vec (vecF 16 l).1 (vecF 16 l).2, .i .i64 0]) := by
 have hw : okW 16 = true := by decide
 obtain ⟨z0, l0, rfl, h0⟩ := len_cons hl
 obtain ⟨z1, l1, rfl, h1⟩ := len_cons h0
 obtain ⟨z2, l2, rfl, h2⟩ := len_cons h1
 obtain ⟨z3, l3, rfl, h3⟩ := len_cons h2
 obtain ⟨z4, l4, rfl, h4⟩ := len_cons h3
 obtain ⟨z5, l5, rfl, h5⟩ := len_cons h4
 obtain ⟨z6, l6, rfl, h6⟩ := len_cons h5
 obtain ⟨z7, l7, rfl, h7⟩ := len_cons h6
 obtain rfl := len_nil h7
 have f0 : z0 ≤ maskF 16 := hz z0 (by simp)
 have f1 : z1 ≤ maskF 16 := hz z1 (by simp)
 have f2 : z2 ≤ maskF 16 := hz z2 (by simp)
 have f3 : z3 ≤ maskF 16 := hz z3 (by simp)
 have f4 : z4 ≤ maskF 16 := hz z4 (by simp)
 have f5 : z5 ≤ maskF 16 := hz z5 (by simp)
 have f6 : z6 ≤ maskF 16 := hz z6 (by simp)
 have f7 : z7 ≤ maskF 16 := hz z7 (by simp)
 refine (of30_16 z0 z1 z2 z3 z4 z5 z6 z7).trans ?_
 rw [chainG_ok (by
  intro b hb
  simp only [List.mem_cons, List.not_mem_nil, or_false] at hb
  rcases hb with rfl | rfl | rfl | rfl | rfl | rfl | rfl | rfl | rfl
  ·rw [isF_zero]; exact hw
  ·exact isF_yes hw f0
  ·exact isF_yes hw f1
  ·exact isF_yes hw f2
  ·exact isF_yes hw f3
  ·exact isF_yes hw f4
  ·exact isF_yes hw f5
  ·exact isF_yes hw f6
  ·exact isF_yes hw f7
  )]
 have e : ∀ {a b c d : BitVec 64}, a = c → b = d → (some (D.tup [vec a b, .i .i64 0]) : Option D) = some (D.tup [vec c d, .i .i64 0]) := by
  intro a b c d h1 h2; rw [h1, h2]
 refine e ?_ ?_
 ·rw [and_fit hw f0, and_fit hw f1, and_fit hw f2, and_fit hw f3]
  exact (of_route16 z0 z1 z2 z3).trans (by rw [← and_fit hw f0, ← and_fit hw f1, ← and_fit hw f2, ← and_fit hw f3]; rfl)
 ·rw [and_fit hw f4, and_fit hw f5, and_fit hw f6, and_fit hw f7]
  exact (of_route16 z4 z5 z6 z7).trans (by rw [← and_fit hw f4, ← and_fit hw f5, ← and_fit hw f6, ← and_fit hw f7]; rfl)
theorem of30ok_32 (l : List (BitVec 64)) (hl : l.length = 4) (hz : ∀ z ∈ l, z ≤ maskF 32) : ex [(80, isYesS), (81, setC)] ann30 Tryz.f79 [.i .i64 32, .sl64 l] some = some (.tup [vec (vecF 32 l).1 (vecF 32 l).2, .i .i64 0]) := by
 have hw : okW 32 = true := by decide
 obtain ⟨z0, l0, rfl, h0⟩ := len_cons hl
 obtain ⟨z1, l1, rfl, h1⟩ := len_cons h0
 obtain ⟨z2, l2, rfl, h2⟩ := len_cons h1
 obtain ⟨z3, l3, rfl, h3⟩ := len_cons h2
 obtain rfl := len_nil h3
 have f0 : z0 ≤ maskF 32 := hz z0 (by simp)
 have f1 : z1 ≤ maskF 32 := hz z1 (by simp)
 have f2 : z2 ≤ maskF 32 := hz z2 (by simp)
 have f3 : z3 ≤ maskF 32 := hz z3 (by simp)
 refine (of30_32 z0 z1 z2 z3).trans ?_
 rw [chainG_ok (by
  intro b hb
  simp only [List.mem_cons, List.not_mem_nil, or_false] at hb
  rcases hb with rfl | rfl | rfl | rfl | rfl
  ·rw [isF_zero]; exact hw
  ·exact isF_yes hw f0
  ·exact isF_yes hw f1
  ·exact isF_yes hw f2
  ·exact isF_yes hw f3
  )]
 have e : ∀ {a b c d : BitVec 64}, a = c → b = d → (some (D.tup [vec a b, .i .i64 0]) : Option D) = some (D.tup [vec c d, .i .i64 0]) := by
  intro a b c d h1 h2; rw [h1, h2]
 refine e ?_ ?_
 ·rw [and_fit hw f0, and_fit hw f1]
  exact (of_route32 z0 z1).trans (by rw [← and_fit hw f0, ← and_fit hw f1]; rfl)
 ·rw [and_fit hw f2, and_fit hw f3]
  exact (of_route32 z2 z3).trans (by rw [← and_fit hw f2, ← and_fit hw f3]; rfl)
theorem of30ok_64 (l : List (BitVec 64)) (hl : l.length = 2) (hz : ∀ z ∈ l, z ≤ maskF 64) : ex [(80, isYesS), (81, setC)] ann30 Tryz.f79 [.i .i64 64, .sl64 l] some = some (.tup [vec (vecF 64 l).1 (vecF 64 l).2, .i .i64 0]) := by
 have hw : okW 64 = true := by decide
 obtain ⟨z0, l0, rfl, h0⟩ := len_cons hl
 obtain ⟨z1, l1, rfl, h1⟩ := len_cons h0
 obtain rfl := len_nil h1
 have f0 : z0 ≤ maskF 64 := hz z0 (by simp)
 have f1 : z1 ≤ maskF 64 := hz z1 (by simp)
 refine (of30_64 z0 z1).trans ?_
 rw [chainG_ok (by
  intro b hb
  simp only [List.mem_cons, List.not_mem_nil, or_false] at hb
  rcases hb with rfl | rfl | rfl
  ·rw [isF_zero]; exact hw
  ·exact isF_yes hw f0
  ·exact isF_yes hw f1
  )]
 have e : ∀ {a b c d : BitVec 64}, a = c → b = d → (some (D.tup [vec a b, .i .i64 0]) : Option D) = some (D.tup [vec c d, .i .i64 0]) := by
  intro a b c d h1 h2; rw [h1, h2]
 refine e ?_ ?_
 ·rw [and_fit hw f0]
  exact (of_route64 z0).trans (by rw [← and_fit hw f0]; rfl)
 ·rw [and_fit hw f1]
  exact (of_route64 z1).trans (by rw [← and_fit hw f1]; rfl)
theorem of30bad_8 (l : List (BitVec 64)) (hl : l.length = 16) (hz : ¬ ∀ z ∈ l, z ≤ maskF 8) : ex [(80, isS), (81, setC)] ann30 Tryz.f79 [.i .i64 8, .sl64 l] some = some ofErr := by
 have hw : okW 8 = true := by decide
 obtain ⟨z0, l0, rfl, h0⟩ := len_cons hl
 obtain ⟨z1, l1, rfl, h1⟩ := len_cons h0
 obtain ⟨z2, l2, rfl, h2⟩ := len_cons h1
 obtain ⟨z3, l3, rfl, h3⟩ := len_cons h2
 obtain ⟨z4, l4, rfl, h4⟩ := len_cons h3
 obtain ⟨z5, l5, rfl, h5⟩ := len_cons h4
 obtain ⟨z6, l6, rfl, h6⟩ := len_cons h5
 obtain ⟨z7, l7, rfl, h7⟩ := len_cons h6
 obtain ⟨z8, l8, rfl, h8⟩ := len_cons h7
 obtain ⟨z9, l9, rfl, h9⟩ := len_cons h8
 obtain ⟨z10, l10, rfl, h10⟩ := len_cons h9
 obtain ⟨z11, l11, rfl, h11⟩ := len_cons h10
 obtain ⟨z12, l12, rfl, h12⟩ := len_cons h11
 obtain ⟨z13, l13, rfl, h13⟩ := len_cons h12
 obtain ⟨z14, l14, rfl, h14⟩ := len_cons h13
 obtain ⟨z15, l15, rfl, h15⟩ := len_cons h14
 obtain rfl := len_nil h15
 refine (of30e_8 z0 z1 z2 z3 z4 z5 z6 z7 z8 z9 z10 z11 z12 z13 z14 z15).trans (chainE_no fun hb => hz fun z hm => ?_)
 have := hb (isF 8 z) (by simp only [List.mem_cons, List.not_mem_nil, or_false] at hm ⊢; rcases hm with rfl | rfl | rfl | rfl | rfl | rfl | rfl | rfl | rfl | rfl | rfl | rfl | rfl | rfl | rfl | rfl <;> simp)
 simp only [isF, hw, Bool.true_and, decide_eq_true_eq] at this
 exact this
theorem of30bad_16 (l : List (BitVec 64)) (hl : l.length = 8) (hz : ¬ ∀ z ∈ l, z ≤ maskF 16) : ex [(80, isS), (81, setC)] ann30 Tryz.f79 [.i .i64 16, .sl64 l] some = some ofErr := by
 have hw : okW 16 = true := by decide
 obtain ⟨z0, l0, rfl, h0⟩ := len_cons hl
 obtain ⟨z1, l1, rfl, h1⟩ := len_cons h0
 obtain ⟨z2, l2, rfl, h2⟩ := len_cons h1
 obtain ⟨z3, l3, rfl, h3⟩ := len_cons h2
 obtain ⟨z4, l4, rfl, h4⟩ := len_cons h3
 obtain ⟨z5, l5, rfl, h5⟩ := len_cons h4
 obtain ⟨z6, l6, rfl, h6⟩ := len_cons h5
 obtain ⟨z7, l7, rfl, h7⟩ := len_cons h6
 obtain rfl := len_nil h7
 refine (of30e_16 z0 z1 z2 z3 z4 z5 z6 z7).trans (chainE_no fun hb => hz fun z hm => ?_)
 have := hb (isF 16 z) (by simp only [List.mem_cons, List.not_mem_nil, or_false] at hm ⊢; rcases hm with rfl | rfl | rfl | rfl | rfl | rfl | rfl | rfl <;> simp)
 simp only [isF, hw, Bool.true_and, decide_eq_true_eq] at this
 exact this
theorem of30bad_32 (l : List (BitVec 64)) (hl : l.length = 4) (hz : ¬ ∀ z ∈ l, z ≤ maskF 32) : ex [(80, isS), (81, setC)] ann30 Tryz.f79 [.i .i64 32, .sl64 l] some = some ofErr := by
 have hw : okW 32 = true := by decide
 obtain ⟨z0, l0, rfl, h0⟩ := len_cons hl
 obtain ⟨z1, l1, rfl, h1⟩ := len_cons h0
 obtain ⟨z2, l2, rfl, h2⟩ := len_cons h1
 obtain ⟨z3, l3, rfl, h3⟩ := len_cons h2
 obtain rfl := len_nil h3
 refine (of30e_32 z0 z1 z2 z3).trans (chainE_no fun hb => hz fun z hm => ?_)
 have := hb (isF 32 z) (by simp only [List.mem_cons, List.not_mem_nil, or_false] at hm ⊢; rcases hm with rfl | rfl | rfl | rfl <;> simp)
 simp only [isF, hw, Bool.true_and, decide_eq_true_eq] at this
 exact this
theorem of30bad_64 (l : List (BitVec 64)) (hl : l.length = 2) (hz : ¬ ∀ z ∈ l, z ≤ maskF 64) : ex [(80, isS), (81, setC)] ann30 Tryz.f79 [.i .i64 64, .sl64 l] some = some ofErr := by
 have hw : okW 64 = true := by decide
 obtain ⟨z0, l0, rfl, h0⟩ := len_cons hl
 obtain ⟨z1, l1, rfl, h1⟩ := len_cons h0
 obtain rfl := len_nil h1
 refine (of30e_64 z0 z1).trans (chainE_no fun hb => hz fun z hm => ?_)
 have := hb (isF 64 z) (by simp only [List.mem_cons, List.not_mem_nil, or_false] at hm ⊢; rcases hm with rfl | rfl <;> simp)
 simp only [isF, hw, Bool.true_and, decide_eq_true_eq] at this
 exact this
open Classical in
theorem Of30 : Snd 79 (two ofF) := by
 intro ds K r hK
 unfold two ofF at hK
 split at hK
 ·rename_i b d e hF
  split at hF
  ·rename_i w l
   cases hF
   by_cases hw : okW w = true
   ·by_cases hl : l.length = (128 / w).toNat
    ·by_cases hz : ∀ z ∈ l, z ≤ maskF w
     ·have hk : okOf w l = true := by
       simp only [okOf, hw, hl, decide_true, Bool.true_and, List.all_eq_true, decide_eq_true_eq]
       exact hz
      rw [if_pos hk] at hK
      refine execFn_sound (ann := ann30) (TableOK.cons isYes40 (TableOK.cons setC43 TableOK.nil)) mixed Tryz.func79 (by kernel_rfl) 50 |>.join (F := fun ds => if ds = [.i .i64 w, .sl64 l] then some (.tup [vec (vecF w l).1 (vecF w l).2, .i .i64 0]) else none) ?_ _ K r ?_
      ·intro ds d h
       split at h
       ·rename_i hd
        subst hd; cases h
        rcases okW_cases hw with rfl | rfl | rfl | rfl
        ·exact of30ok_8 l hl hz
        ·exact of30ok_16 l hl hz
        ·exact of30ok_32 l hl hz
        ·exact of30ok_64 l hl hz
       ·cases h
      ·simp only [joined, if_true]; exact hK
     ·have hk : ¬ okOf w l = true := fun hk => hz (okOf_cases hk).2.2
      rw [if_neg hk] at hK
      refine execFn_sound (ann := ann30) (TableOK.cons is40 (TableOK.cons setC43 TableOK.nil)) mixed Tryz.func79 (by kernel_rfl) 50 |>.join (F := fun ds => if ds = [.i .i64 w, .sl64 l] then some ofErr else none) ?_ _ K r ?_
      ·intro ds d h
       split at h
       ·rename_i hd
        subst hd; cases h
        rcases okW_cases hw with rfl | rfl | rfl | rfl
        ·exact of30bad_8 l hl hz
        ·exact of30bad_16 l hl hz
        ·exact of30bad_32 l hl hz
        ·exact of30bad_64 l hl hz
       ·cases h
      ·simp only [joined, if_true]; exact hK
    ·have hk : ¬ okOf w l = true := fun hk => hl (okOf_cases hk).2.1
     rw [if_neg hk] at hK
     refine execFn_sound (ann := fun _ => []) (TableOK.cons is40 TableOK.nil) mixed Tryz.func79 (by kernel_rfl) 50 |>.join (F := fun ds => if ds = [.i .i64 w, .sl64 l] then some ofErr else none) ?_ _ K r ?_
     ·intro ds d h
      split at h
      ·rename_i hd
       subst hd; cases h
       rcases okW_cases hw with rfl | rfl | rfl | rfl
       ·exact (of30l_8 l).trans (if_pos (by simp; simp at hl; omega))
       ·exact (of30l_16 l).trans (if_pos (by simp; simp at hl; omega))
       ·exact (of30l_32 l).trans (if_pos (by simp; simp at hl; omega))
       ·exact (of30l_64 l).trans (if_pos (by simp; simp at hl; omega))
      ·cases h
     ·simp only [joined, if_true]; exact hK
   ·have hk : ¬ okOf w l = true := fun hk => hw (okOf_cases hk).1
    rw [if_neg hk] at hK
    refine execFn_sound (ann := fun _ => []) (TableOK.cons isNo40 TableOK.nil) mixed Tryz.func79 (by kernel_rfl) 50 |>.join (F := fun ds => if ds = [.i .i64 w, .sl64 l] then some ofErr else none) ?_ _ K r ?_
    ·intro ds d h
     split at h
     ·rename_i hd
      subst hd; cases h
      have nf : ex [(80, isNoS)] (fun _ => []) Tryz.f79 [.i .i64 w, .sl64 l] some = if (!isF w 0#64) = true then some ofErr else none := by kernel_rfl
      exact nf.trans (if_pos (by rw [isF_zero]; simpa using hw))
     ·cases h
    ·simp only [joined, if_true]; exact hK
  ·rename_i w
   cases hF
   rw [if_neg (by simp)] at hK
   by_cases hw : okW w = true
   ·refine execFn_sound (ann := ann30) (TableOK.cons is40 TableOK.nil) mixed Tryz.func79 (by kernel_rfl) 50 |>.join (F := fun ds => if ds = [.i .i64 w, nilS] then some ofErr else none) ?_ _ K r ?_
    ·intro ds d h
     split at h
     ·rename_i hd
      subst hd; cases h
      rcases okW_cases hw with rfl | rfl | rfl | rfl
      ·exact of30n_8
      ·exact of30n_16
      ·exact of30n_32
      ·exact of30n_64
     ·cases h
    ·simp only [joined, if_true]; exact hK
   ·refine execFn_sound (ann := fun _ => []) (TableOK.cons isNo40 TableOK.nil) mixed Tryz.func79 (by kernel_rfl) 50 |>.join (F := fun ds => if ds = [.i .i64 w, nilS] then some ofErr else none) ?_ _ K r ?_
    ·intro ds d h
     split at h
     ·rename_i hd
      subst hd; cases h
      have nf : ex [(80, isNoS)] (fun _ => []) Tryz.f79 [.i .i64 w, nilS] some = if (!isF w 0#64) = true then some ofErr else none := by kernel_rfl
      exact nf.trans (if_pos (by rw [isF_zero]; simpa using hw))
     ·cases h
    ·simp only [joined, if_true]; exact hK
  ·cases hF
 ·cases hK
end Go.L23
namespace Go.L23
open Go.Ev Go.Proofs Go.RowKit Go.Rt
open Go.Wh
noncomputable def OfS : Ev.Spec := joined fun
 | [.i .i64 w, .sl64 l] => some (.tup [vec (ifF (okOf w l) (vecF w l).1) (ifF (okOf w l) (vecF w l).2), .i .i64 (errF (okOf w l))])
 | [.i .i64 _, .c (.slice none 0 0)] => some ofErr
 | _ => none
theorem OfJ {f : Nat} (h : Snd f (two ofF)) : Snd f OfS := h.merge fun ds d hJ => by
 split at hJ
 ·rename_i w l
  cases hJ
  refine ⟨_, _, _, rfl, ?_⟩
  cases okOf w l <;> rfl
 ·cases hJ
  exact ⟨_, _, _, rfl, rfl⟩
 ·cases hJ
instance {ρ : Nat → BitVec 64} (x : BitVec 64) (k : Nat) [r : Rf ρ x] : Rf ρ (dbl x k) := ⟨.or r.e (.shl r.e k), by simp only [RE.sem, r.ok]; rfl⟩
end Go.L23
namespace Go.L23
open Go.Ev Go.Proofs Go.RowKit Go.Rt
open Go.Wh
theorem vecF_list8 (x y : BitVec 64) : vecF 8 (listF x y 8) = (x, y) := by
 have e : ∀ x : BitVec 64, asm [bt (x >>> 0 &&& maskF 8) 0, bt (x >>> 8 &&& maskF 8) 0, bt (x >>> 16 &&& maskF 8) 0, bt (x >>> 24 &&& maskF 8) 0, bt (x >>> 32 &&& maskF 8) 0, bt (x >>> 40 &&& maskF 8) 0, bt (x >>> 48 &&& maskF 8) 0, bt (x >>> 56 &&& maskF 8) 0] = x := fun x => route (ρ := at3 x 0#64 0#64) (by kernel_rfl)
 exact Prod.ext (Eq.trans (by kernel_rfl) (e x)) (Eq.trans (by kernel_rfl) (e y))
theorem vecF_list16 (x y : BitVec 64) : vecF 16 (listF x y 16) = (x, y) := by
 have e : ∀ x : BitVec 64, asm [bt (x >>> 0 &&& maskF 16) 0, bt (x >>> 0 &&& maskF 16) 8, bt (x >>> 16 &&& maskF 16) 0, bt (x >>> 16 &&& maskF 16) 8, bt (x >>> 32 &&& maskF 16) 0, bt (x >>> 32 &&& maskF 16) 8, bt (x >>> 48 &&& maskF 16) 0, bt (x >>> 48 &&& maskF 16) 8] = x := fun x => route (ρ := at3 x 0#64 0#64) (by kernel_rfl)
 exact Prod.ext (Eq.trans (by kernel_rfl) (e x)) (Eq.trans (by kernel_rfl) (e y))
theorem vecF_list32 (x y : BitVec 64) : vecF 32 (listF x y 32) = (x, y) := by
 have e : ∀ x : BitVec 64, asm [bt (x >>> 0 &&& maskF 32) 0, bt (x >>> 0 &&& maskF 32) 8, bt (x >>> 0 &&& maskF 32) 16, bt (x >>> 0 &&& maskF 32) 24, bt (x >>> 32 &&& maskF 32) 0, bt (x >>> 32 &&& maskF 32) 8, bt (x >>> 32 &&& maskF 32) 16, bt (x >>> 32 &&& maskF 32) 24] = x := fun x => route (ρ := at3 x 0#64 0#64) (by kernel_rfl)
 exact Prod.ext (Eq.trans (by kernel_rfl) (e x)) (Eq.trans (by kernel_rfl) (e y))
theorem vecF_list64 (x y : BitVec 64) : vecF 64 (listF x y 64) = (x, y) := by
 have e : ∀ x : BitVec 64, asm [bt (x >>> 0 &&& maskF 64) 0, bt (x >>> 0 &&& maskF 64) 8, bt (x >>> 0 &&& maskF 64) 16, bt (x >>> 0 &&& maskF 64) 24, bt (x >>> 0 &&& maskF 64) 32, bt (x >>> 0 &&& maskF 64) 40, bt (x >>> 0 &&& maskF 64) 48, bt (x >>> 0 &&& maskF 64) 56] = x := fun x => route (ρ := at3 x 0#64 0#64) (by kernel_rfl)
 exact Prod.ext (Eq.trans (by kernel_rfl) (e x)) (Eq.trans (by kernel_rfl) (e y))
theorem vecF_list (x y : BitVec 64) {w : Int} (h : okW w = true) : vecF w (listF x y w) = (x, y) := by
 rcases okW_cases h with rfl | rfl | rfl | rfl
 ·exact vecF_list8 x y
 ·exact vecF_list16 x y
 ·exact vecF_list32 x y
 ·exact vecF_list64 x y
theorem and_le (x m : BitVec 64) : x &&& m ≤ m := by
 rw [BitVec.le_def, BitVec.toNat_and]
 exact Nat.and_le_right
theorem okOf_list (x y : BitVec 64) {w : Int} (h : okW w = true) : okOf w (listF x y w) = true := by
 simp only [okOf, h, listF_length, decide_true, Bool.true_and, List.all_eq_true]
 intro z hz
 simp only [listF, List.mem_map] at hz
 obtain ⟨i, _, rfl⟩ := hz
 unfold getF
 split <;> exact decide_eq_true (and_le _ _)
end Go.L23

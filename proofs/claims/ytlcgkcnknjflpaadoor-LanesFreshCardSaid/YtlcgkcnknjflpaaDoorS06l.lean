/-
  Part of the proof; what its functions and lemmas say stands in the text.
-/
import Derived.Test.YtlcgkcnknjflpaaDoorS06k
set_option linter.unusedSimpArgs false
set_option linter.unusedVariables false
/-!
Chapter 06: the vector of lanes, from a list.
-/
namespace Go.L06
open Go.Ev Go.Proofs Go.RowKit Go.Rt

def okOf (w : Int) (l : List (BitVec 64)) : Bool := okW w && decide (l.length = (128 / w).toNat) && l.all (fun z => decide (z ≤ maskF w))
def ofF : List D → Option (Bool × D × D)
  | [.i .i64 w, .sl64 l] => some (okOf w l, .tup [vec (vecF w l).1 (vecF w l).2, .i .i64 0], .tup [vec 0#64 0#64, .i .i64 2])
  | [.i .i64 w, .c (.slice none 0 0)] => some (false, .tup [vec 0#64 0#64, .i .i64 2], .tup [vec 0#64 0#64, .i .i64 2])
  | _ => none
noncomputable def isYesS : Ev.Spec := guarded fun | [.i .i64 t, .u64 x] => some (isF t x, .bool true) | _ => none
theorem isYes40 : Snd 40 isYesS := is40.restrict fun ds K r h => by
  unfold isYesS guarded at h
  dsimp only at h
  split at h
  · rename_i b d hd
    split at hd
    · cases hd
      split at h
      · rename_i t x hb
        simp only [isS, joined, hb]
        exact h
      · cases h
    · cases hd
  · cases h
def chainG : List Bool → Option D → Option D
  | [], a => a
  | b :: l, a => if b = true then chainG l a else none
theorem chainG_ok : ∀ {l : List Bool} {a : Option D}, (∀ b ∈ l, b = true) → chainG l a = a
  | [], a, _ => rfl
  | b :: l, a, h => by
    simp only [chainG]
    rw [if_pos (h b List.mem_cons_self)]
    exact chainG_ok fun c hc => h c (List.mem_cons_of_mem _ hc)
def chainE : List Bool → Option D → Option D → Option D
  | [], _, a => a
  | b :: l, e, a => if (!b) = true then e else chainE l e a
theorem chainE_no : ∀ {l : List Bool} {e a : Option D}, ¬ (∀ b ∈ l, b = true) → chainE l e a = e
  | [], e, a, h => absurd (fun b hb => by cases hb) h
  | b :: l, e, a, h => by
    simp only [chainE]
    cases b
    · simp
    · simp only [Bool.not_true, Bool.false_eq_true, if_false]
      exact chainE_no fun hl => h fun c hc => by
        rcases List.mem_cons.1 hc with rfl | hc
        · rfl
        · exact hl c hc
def atW (z0 z1 z2 z3 z4 z5 z6 z7 : BitVec 64) : Nat → BitVec 64
  | 0 => z0 | 1 => z1 | 2 => z2 | 3 => z3 | 4 => z4 | 5 => z5 | 6 => z6 | 7 => z7
  | _ => 0#64
section
variable (z0 z1 z2 z3 z4 z5 z6 z7 : BitVec 64)
instance : Rf (atW z0 z1 z2 z3 z4 z5 z6 z7) z0 := ⟨.atom 0, rfl⟩
instance : Rf (atW z0 z1 z2 z3 z4 z5 z6 z7) z1 := ⟨.atom 1, rfl⟩
instance : Rf (atW z0 z1 z2 z3 z4 z5 z6 z7) z2 := ⟨.atom 2, rfl⟩
instance : Rf (atW z0 z1 z2 z3 z4 z5 z6 z7) z3 := ⟨.atom 3, rfl⟩
instance : Rf (atW z0 z1 z2 z3 z4 z5 z6 z7) z4 := ⟨.atom 4, rfl⟩
instance : Rf (atW z0 z1 z2 z3 z4 z5 z6 z7) z5 := ⟨.atom 5, rfl⟩
instance : Rf (atW z0 z1 z2 z3 z4 z5 z6 z7) z6 := ⟨.atom 6, rfl⟩
instance : Rf (atW z0 z1 z2 z3 z4 z5 z6 z7) z7 := ⟨.atom 7, rfl⟩
end
def ann30 : Nat → List Nat := fun | 5 => [0, 4, 6, 20, 21, 22] | _ => []
def ann31 : Nat → List Nat := fun | 4 => [0, 1, 4, 6] | _ => []
theorem of_route8 (z0 z1 z2 z3 z4 z5 z6 z7 : BitVec 64) : put (put (put (put (put (put (put (put 0#64 (maskF 8) 0 (z0 &&& maskF 8)) (maskF 8) 8 (z1 &&& maskF 8)) (maskF 8) 16 (z2 &&& maskF 8)) (maskF 8) 24 (z3 &&& maskF 8)) (maskF 8) 32 (z4 &&& maskF 8)) (maskF 8) 40 (z5 &&& maskF 8)) (maskF 8) 48 (z6 &&& maskF 8)) (maskF 8) 56 (z7 &&& maskF 8) = asm [bt (z0 &&& maskF 8) 0, bt (z1 &&& maskF 8) 0, bt (z2 &&& maskF 8) 0, bt (z3 &&& maskF 8) 0, bt (z4 &&& maskF 8) 0, bt (z5 &&& maskF 8) 0, bt (z6 &&& maskF 8) 0, bt (z7 &&& maskF 8) 0] := route (ρ := atW z0 z1 z2 z3 z4 z5 z6 z7) (by kernel_rfl)
theorem of30_8 (z0 z1 z2 z3 z4 z5 z6 z7 z8 z9 z10 z11 z12 z13 z14 z15 : BitVec 64) : ex [(40, isYesS), (43, setC)] ann30 Tryd.f30 [.i .i64 8, .sl64 [z0, z1, z2, z3, z4, z5, z6, z7, z8, z9, z10, z11, z12, z13, z14, z15]] some = chainG [isF 8 0#64, isF 8 z0, isF 8 z1, isF 8 z2, isF 8 z3, isF 8 z4, isF 8 z5, isF 8 z6, isF 8 z7, isF 8 z8, isF 8 z9, isF 8 z10, isF 8 z11, isF 8 z12, isF 8 z13, isF 8 z14, isF 8 z15] (some (.tup [vec (put (put (put (put (put (put (put (put 0#64 (maskF 8) 0 z0) (maskF 8) 8 z1) (maskF 8) 16 z2) (maskF 8) 24 z3) (maskF 8) 32 z4) (maskF 8) 40 z5) (maskF 8) 48 z6) (maskF 8) 56 z7) (put (put (put (put (put (put (put (put 0#64 (maskF 8) 0 z8) (maskF 8) 8 z9) (maskF 8) 16 z10) (maskF 8) 24 z11) (maskF 8) 32 z12) (maskF 8) 40 z13) (maskF 8) 48 z14) (maskF 8) 56 z15), .i .i64 0])) := by kernel_rfl
theorem of30e_8 (z0 z1 z2 z3 z4 z5 z6 z7 z8 z9 z10 z11 z12 z13 z14 z15 : BitVec 64) : ex [(40, isS), (43, setC)] ann30 Tryd.f30 [.i .i64 8, .sl64 [z0, z1, z2, z3, z4, z5, z6, z7, z8, z9, z10, z11, z12, z13, z14, z15]] some = chainE [isF 8 z0, isF 8 z1, isF 8 z2, isF 8 z3, isF 8 z4, isF 8 z5, isF 8 z6, isF 8 z7, isF 8 z8, isF 8 z9, isF 8 z10, isF 8 z11, isF 8 z12, isF 8 z13, isF 8 z14, isF 8 z15] (some (.tup [vec 0#64 0#64, .i .i64 2])) (some (.tup [vec (put (put (put (put (put (put (put (put 0#64 (maskF 8) 0 z0) (maskF 8) 8 z1) (maskF 8) 16 z2) (maskF 8) 24 z3) (maskF 8) 32 z4) (maskF 8) 40 z5) (maskF 8) 48 z6) (maskF 8) 56 z7) (put (put (put (put (put (put (put (put 0#64 (maskF 8) 0 z8) (maskF 8) 8 z9) (maskF 8) 16 z10) (maskF 8) 24 z11) (maskF 8) 32 z12) (maskF 8) 40 z13) (maskF 8) 48 z14) (maskF 8) 56 z15), .i .i64 0])) := by kernel_rfl
theorem of30l_8 (l : List (BitVec 64)) : ex [(40, isS)] (fun _ => []) Tryd.f30 [.i .i64 8, .sl64 l] some = if (!((l.length : Int) == 16)) = true then some (.tup [vec 0#64 0#64, .i .i64 2]) else none := by kernel_rfl
theorem of30n_8 : ex [(40, isS)] ann30 Tryd.f30 [.i .i64 8, nilS] some = some (.tup [vec 0#64 0#64, .i .i64 2]) := by kernel_rfl
theorem of31_8 (z0 z1 z2 z3 z4 z5 z6 z7 z8 z9 z10 z11 z12 z13 z14 z15 : BitVec 64) : ex [(42, widthS), (44, fitsS), (45, vecS)] ann31 Tryd.f31 [.i .i64 8, .sl64 [z0, z1, z2, z3, z4, z5, z6, z7, z8, z9, z10, z11, z12, z13, z14, z15]] some = chainE [decide (z0 ≤ maskF 8), decide (z1 ≤ maskF 8), decide (z2 ≤ maskF 8), decide (z3 ≤ maskF 8), decide (z4 ≤ maskF 8), decide (z5 ≤ maskF 8), decide (z6 ≤ maskF 8), decide (z7 ≤ maskF 8), decide (z8 ≤ maskF 8), decide (z9 ≤ maskF 8), decide (z10 ≤ maskF 8), decide (z11 ≤ maskF 8), decide (z12 ≤ maskF 8), decide (z13 ≤ maskF 8), decide (z14 ≤ maskF 8), decide (z15 ≤ maskF 8)] (some (.tup [vec 0#64 0#64, .i .i64 2])) (some (.tup [vec (vecF 8 [z0, z1, z2, z3, z4, z5, z6, z7, z8, z9, z10, z11, z12, z13, z14, z15]).1 (vecF 8 [z0, z1, z2, z3, z4, z5, z6, z7, z8, z9, z10, z11, z12, z13, z14, z15]).2, .i .i64 0])) := by kernel_rfl
theorem of31l_8 (l : List (BitVec 64)) : ex [(42, widthS)] (fun _ => []) Tryd.f31 [.i .i64 8, .sl64 l] some = if (!((l.length : Int) == 16)) = true then some (.tup [vec 0#64 0#64, .i .i64 2]) else none := by kernel_rfl
theorem of31n_8 : ex [(42, widthS)] ann31 Tryd.f31 [.i .i64 8, nilS] some = some (.tup [vec 0#64 0#64, .i .i64 2]) := by kernel_rfl
theorem of_route16 (z0 z1 z2 z3 : BitVec 64) : put (put (put (put 0#64 (maskF 16) 0 (z0 &&& maskF 16)) (maskF 16) 16 (z1 &&& maskF 16)) (maskF 16) 32 (z2 &&& maskF 16)) (maskF 16) 48 (z3 &&& maskF 16) = asm [bt (z0 &&& maskF 16) 0, bt (z0 &&& maskF 16) 8, bt (z1 &&& maskF 16) 0, bt (z1 &&& maskF 16) 8, bt (z2 &&& maskF 16) 0, bt (z2 &&& maskF 16) 8, bt (z3 &&& maskF 16) 0, bt (z3 &&& maskF 16) 8] := route (ρ := atW z0 z1 z2 z3 0#64 0#64 0#64 0#64) (by kernel_rfl)
theorem of30_16 (z0 z1 z2 z3 z4 z5 z6 z7 : BitVec 64) : ex [(40, isYesS), (43, setC)] ann30 Tryd.f30 [.i .i64 16, .sl64 [z0, z1, z2, z3, z4, z5, z6, z7]] some = chainG [isF 16 0#64, isF 16 z0, isF 16 z1, isF 16 z2, isF 16 z3, isF 16 z4, isF 16 z5, isF 16 z6, isF 16 z7] (some (.tup [vec (put (put (put (put 0#64 (maskF 16) 0 z0) (maskF 16) 16 z1) (maskF 16) 32 z2) (maskF 16) 48 z3) (put (put (put (put 0#64 (maskF 16) 0 z4) (maskF 16) 16 z5) (maskF 16) 32 z6) (maskF 16) 48 z7), .i .i64 0])) := by kernel_rfl
theorem of30e_16 (z0 z1 z2 z3 z4 z5 z6 z7 : BitVec 64) : ex [(40, isS), (43, setC)] ann30 Tryd.f30 [.i .i64 16, .sl64 [z0, z1, z2, z3, z4, z5, z6, z7]] some = chainE [isF 16 z0, isF 16 z1, isF 16 z2, isF 16 z3, isF 16 z4, isF 16 z5, isF 16 z6, isF 16 z7] (some (.tup [vec 0#64 0#64, .i .i64 2])) (some (.tup [vec (put (put (put (put 0#64 (maskF 16) 0 z0) (maskF 16) 16 z1) (maskF 16) 32 z2) (maskF 16) 48 z3) (put (put (put (put 0#64 (maskF 16) 0 z4) (maskF 16) 16 z5) (maskF 16) 32 z6) (maskF 16) 48 z7), .i .i64 0])) := by kernel_rfl
theorem of30l_16 (l : List (BitVec 64)) : ex [(40, isS)] (fun _ => []) Tryd.f30 [.i .i64 16, .sl64 l] some = if (!((l.length : Int) == 8)) = true then some (.tup [vec 0#64 0#64, .i .i64 2]) else none := by kernel_rfl
theorem of30n_16 : ex [(40, isS)] ann30 Tryd.f30 [.i .i64 16, nilS] some = some (.tup [vec 0#64 0#64, .i .i64 2]) := by kernel_rfl
theorem of31_16 (z0 z1 z2 z3 z4 z5 z6 z7 : BitVec 64) : ex [(42, widthS), (44, fitsS), (45, vecS)] ann31 Tryd.f31 [.i .i64 16, .sl64 [z0, z1, z2, z3, z4, z5, z6, z7]] some = chainE [decide (z0 ≤ maskF 16), decide (z1 ≤ maskF 16), decide (z2 ≤ maskF 16), decide (z3 ≤ maskF 16), decide (z4 ≤ maskF 16), decide (z5 ≤ maskF 16), decide (z6 ≤ maskF 16), decide (z7 ≤ maskF 16)] (some (.tup [vec 0#64 0#64, .i .i64 2])) (some (.tup [vec (vecF 16 [z0, z1, z2, z3, z4, z5, z6, z7]).1 (vecF 16 [z0, z1, z2, z3, z4, z5, z6, z7]).2, .i .i64 0])) := by kernel_rfl
theorem of31l_16 (l : List (BitVec 64)) : ex [(42, widthS)] (fun _ => []) Tryd.f31 [.i .i64 16, .sl64 l] some = if (!((l.length : Int) == 8)) = true then some (.tup [vec 0#64 0#64, .i .i64 2]) else none := by kernel_rfl
theorem of31n_16 : ex [(42, widthS)] ann31 Tryd.f31 [.i .i64 16, nilS] some = some (.tup [vec 0#64 0#64, .i .i64 2]) := by kernel_rfl
theorem of_route32 (z0 z1 : BitVec 64) : put (put 0#64 (maskF 32) 0 (z0 &&& maskF 32)) (maskF 32) 32 (z1 &&& maskF 32) = asm [bt (z0 &&& maskF 32) 0, bt (z0 &&& maskF 32) 8, bt (z0 &&& maskF 32) 16, bt (z0 &&& maskF 32) 24, bt (z1 &&& maskF 32) 0, bt (z1 &&& maskF 32) 8, bt (z1 &&& maskF 32) 16, bt (z1 &&& maskF 32) 24] := route (ρ := atW z0 z1 0#64 0#64 0#64 0#64 0#64 0#64) (by kernel_rfl)
theorem of30_32 (z0 z1 z2 z3 : BitVec 64) : ex [(40, isYesS), (43, setC)] ann30 Tryd.f30 [.i .i64 32, .sl64 [z0, z1, z2, z3]] some = chainG [isF 32 0#64, isF 32 z0, isF 32 z1, isF 32 z2, isF 32 z3] (some (.tup [vec (put (put 0#64 (maskF 32) 0 z0) (maskF 32) 32 z1) (put (put 0#64 (maskF 32) 0 z2) (maskF 32) 32 z3), .i .i64 0])) := by kernel_rfl
theorem of30e_32 (z0 z1 z2 z3 : BitVec 64) : ex [(40, isS), (43, setC)] ann30 Tryd.f30 [.i .i64 32, .sl64 [z0, z1, z2, z3]] some = chainE [isF 32 z0, isF 32 z1, isF 32 z2, isF 32 z3] (some (.tup [vec 0#64 0#64, .i .i64 2])) (some (.tup [vec (put (put 0#64 (maskF 32) 0 z0) (maskF 32) 32 z1) (put (put 0#64 (maskF 32) 0 z2) (maskF 32) 32 z3), .i .i64 0])) := by kernel_rfl
theorem of30l_32 (l : List (BitVec 64)) : ex [(40, isS)] (fun _ => []) Tryd.f30 [.i .i64 32, .sl64 l] some = if (!((l.length : Int) == 4)) = true then some (.tup [vec 0#64 0#64, .i .i64 2]) else none := by kernel_rfl
theorem of30n_32 : ex [(40, isS)] ann30 Tryd.f30 [.i .i64 32, nilS] some = some (.tup [vec 0#64 0#64, .i .i64 2]) := by kernel_rfl
theorem of31_32 (z0 z1 z2 z3 : BitVec 64) : ex [(42, widthS), (44, fitsS), (45, vecS)] ann31 Tryd.f31 [.i .i64 32, .sl64 [z0, z1, z2, z3]] some = chainE [decide (z0 ≤ maskF 32), decide (z1 ≤ maskF 32), decide (z2 ≤ maskF 32), decide (z3 ≤ maskF 32)] (some (.tup [vec 0#64 0#64, .i .i64 2])) (some (.tup [vec (vecF 32 [z0, z1, z2, z3]).1 (vecF 32 [z0, z1, z2, z3]).2, .i .i64 0])) := by kernel_rfl
theorem of31l_32 (l : List (BitVec 64)) : ex [(42, widthS)] (fun _ => []) Tryd.f31 [.i .i64 32, .sl64 l] some = if (!((l.length : Int) == 4)) = true then some (.tup [vec 0#64 0#64, .i .i64 2]) else none := by kernel_rfl
theorem of31n_32 : ex [(42, widthS)] ann31 Tryd.f31 [.i .i64 32, nilS] some = some (.tup [vec 0#64 0#64, .i .i64 2]) := by kernel_rfl
theorem of_route64 (z0 : BitVec 64) : put 0#64 (maskF 64) 0 (z0 &&& maskF 64) = asm [bt (z0 &&& maskF 64) 0, bt (z0 &&& maskF 64) 8, bt (z0 &&& maskF 64) 16, bt (z0 &&& maskF 64) 24, bt (z0 &&& maskF 64) 32, bt (z0 &&& maskF 64) 40, bt (z0 &&& maskF 64) 48, bt (z0 &&& maskF 64) 56] := route (ρ := atW z0 0#64 0#64 0#64 0#64 0#64 0#64 0#64) (by kernel_rfl)
theorem of30_64 (z0 z1 : BitVec 64) : ex [(40, isYesS), (43, setC)] ann30 Tryd.f30 [.i .i64 64, .sl64 [z0, z1]] some = chainG [isF 64 0#64, isF 64 z0, isF 64 z1] (some (.tup [vec (put 0#64 (maskF 64) 0 z0) (put 0#64 (maskF 64) 0 z1), .i .i64 0])) := by kernel_rfl
theorem of30e_64 (z0 z1 : BitVec 64) : ex [(40, isS), (43, setC)] ann30 Tryd.f30 [.i .i64 64, .sl64 [z0, z1]] some = chainE [isF 64 z0, isF 64 z1] (some (.tup [vec 0#64 0#64, .i .i64 2])) (some (.tup [vec (put 0#64 (maskF 64) 0 z0) (put 0#64 (maskF 64) 0 z1), .i .i64 0])) := by kernel_rfl
theorem of30l_64 (l : List (BitVec 64)) : ex [(40, isS)] (fun _ => []) Tryd.f30 [.i .i64 64, .sl64 l] some = if (!((l.length : Int) == 2)) = true then some (.tup [vec 0#64 0#64, .i .i64 2]) else none := by kernel_rfl
theorem of30n_64 : ex [(40, isS)] ann30 Tryd.f30 [.i .i64 64, nilS] some = some (.tup [vec 0#64 0#64, .i .i64 2]) := by kernel_rfl
theorem of31_64 (z0 z1 : BitVec 64) : ex [(42, widthS), (44, fitsS), (45, vecS)] ann31 Tryd.f31 [.i .i64 64, .sl64 [z0, z1]] some = chainE [decide (z0 ≤ maskF 64), decide (z1 ≤ maskF 64)] (some (.tup [vec 0#64 0#64, .i .i64 2])) (some (.tup [vec (vecF 64 [z0, z1]).1 (vecF 64 [z0, z1]).2, .i .i64 0])) := by kernel_rfl
theorem of31l_64 (l : List (BitVec 64)) : ex [(42, widthS)] (fun _ => []) Tryd.f31 [.i .i64 64, .sl64 l] some = if (!((l.length : Int) == 2)) = true then some (.tup [vec 0#64 0#64, .i .i64 2]) else none := by kernel_rfl
theorem of31n_64 : ex [(42, widthS)] ann31 Tryd.f31 [.i .i64 64, nilS] some = some (.tup [vec 0#64 0#64, .i .i64 2]) := by kernel_rfl
end Go.L06

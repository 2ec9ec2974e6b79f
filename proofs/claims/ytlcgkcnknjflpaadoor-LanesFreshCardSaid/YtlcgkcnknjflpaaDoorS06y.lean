/-
  Part of the proof; what its functions and lemmas say stands in the text.
-/
import Derived.Test.YtlcgkcnknjflpaaDoorS06x
import Derived.Test.YtlcgkcnknjflpaaDoorS06q
set_option linter.unusedSimpArgs false
set_option linter.unusedVariables false
/-!
Chapter 06: LanesFresh: copies.
-/
namespace Go.L06
open Go.Ev Go.Proofs Go.RowKit Go.Rt

noncomputable def CopyE : Ev.Spec := joined fun | [.c (.slice none 0 0)] => some nilS | [.c (.slice (some _) 0 0)] => some nilS | [.sl64 []] => some nilS | _ => none
theorem Copy34e : Snd 34 CopyE := by
  refine Sound.join (execFn_sound (ann := fun _ => []) TableOK.nil mixed Tryd.func34 (by kernel_rfl) 50) fun ds d h => ?_
  split at h
  · cases h; kernel_rfl
  · cases h; kernel_rfl
  · cases h; kernel_rfl
  · cases h
noncomputable def CopyS : Ev.Spec := guarded fun | [.sl64 l] => some (decide (l.length ≠ 0 ∧ l.length * 8 ≤ 140737488355328), .sl64 l) | _ => none
theorem nf34 (l : List (BitVec 64)) : ex [] (fun _ => []) Tryd.f34 [.sl64 l] some = if 0 + l.length ≤ l.length then if l.length = 0 then some nilS else if l.length * 8 ≤ 140737488355328 then if decide (0 + l.length ≤ (tk l).length) = true then some (.sl64 (List.take l.length (List.drop 0 (tk l)))) else none else none else none := by kernel_rfl
theorem Copy34 : Snd 34 CopyS := by
  refine Sound.guard (execFn_sound (ann := fun _ => []) TableOK.nil mixed Tryd.func34 (by kernel_rfl) 50) fun ds d h => ?_
  split at h
  · rename_i l
    simp only [Option.some.injEq, Prod.mk.injEq, decide_eq_true_eq] at h
    obtain ⟨⟨h0, h1⟩, rfl⟩ := h
    refine (nf34 l).trans ?_
    rw [if_pos (by omega), if_neg h0, if_pos h1, tk_eq, if_pos (by simp), ← tk, tk_eq]
  · cases h
/-! Words where nothing is -/
noncomputable def WordsE : Ev.Spec := joined fun | [.c (.slice none 0 0), .c (.slice none 0 0)] => some (.bool true) | [.c (.slice none 0 0), .c (.slice (some _) 0 0)] => some (.bool true) | [.c (.slice none 0 0), .sl64 []] => some (.bool true) | [.sl64 a, .sl64 b] => if a.length < 2 ^ 62 ∧ b.length < 2 ^ 62 then some (.bool (a == b)) else none | _ => none
theorem Words33e : Snd 33 WordsE := by
  refine Sound.of_pt fun ds d h => ?_
  have go : ∀ {ds d}, ex [] (fun | 4 => [0, 1, 4, 5] | _ => []) Tryd.f33 ds some = some d → Pt Tryd.prog G0 33 ds d := fun h => (execFn_sound (ann := fun | 4 => [0, 1, 4, 5] | _ => []) TableOK.nil mixed Tryd.func33 (by kernel_rfl) 50).pt h
  split at h
  · cases h; exact go (by kernel_rfl)
  · cases h; exact go (by kernel_rfl)
  · cases h; exact go (by kernel_rfl)
  · rename_i a b
    split at h
    · rename_i hh
      cases h
      exact Words33.pt (by simp [WordsS, guarded, hh])
    · cases h
  · cases h
noncomputable def widG (w : Int) : Ev.Spec := guarded fun | [.u8 n] => some (widF n == w, .i .i64 w) | _ => none
theorem wid18g (w : Int) : Snd 18 (widG w) := by
  refine Sound.of_ptG fun ds d h => ?_
  split at h
  · rename_i n
    simp only [Option.some.injEq, Prod.mk.injEq, beq_iff_eq] at h
    obtain ⟨h, rfl⟩ := h
    rw [← h]
    exact wid18.pt rfl
  · cases h
def ann9 : Nat → List Nat := fun | 4 => [2, 3, 7, 8, 10] | _ => []
/-! law -/
def wordsT (l r : List (BitVec 64)) (d : Option D) : Option D :=
  if (inn l && (inn r && true)) = true then if decide ((tk l).length < 2 ^ 62 ∧ (tk r).length < 2 ^ 62) = true then if (tk l == tk r) = true then d else some (.bool false) else none else none
def copyT (l : List (BitVec 64)) (d : Option D) : Option D :=
  if (inn l && true) = true then if decide ((tk l).length ≠ 0 ∧ (tk l).length * 8 ≤ 140737488355328) = true then if (inn (tk l) && true) = true then wordsT (tk l) l d else none else none else none
theorem nf9_8 (x y : BitVec 64) (n : BitVec 8) (l : List (BitVec 64)) : ex [(18, widG 8), (28, left allF), (30, OfS), (33, WordsS), (34, CopyS), (35, listS), (17, worksS)] ann9 Tryd.f9 [vec x y, .u8 n, .sl64 l] some =
  if (widF n == 8) = true then copyT l (if (listF x y 8 == listF x y 8) = true then some (.bool true) else some (.bool false)) else none := by kernel_rfl
theorem nf9_16 (x y : BitVec 64) (n : BitVec 8) (l : List (BitVec 64)) : ex [(18, widG 16), (28, left allF), (30, OfS), (33, WordsS), (34, CopyS), (35, listS), (17, worksS)] ann9 Tryd.f9 [vec x y, .u8 n, .sl64 l] some =
  if (widF n == 16) = true then copyT l (if (listF x y 16 == listF x y 16) = true then some (.bool true) else some (.bool false)) else none := by kernel_rfl
theorem nf9_32 (x y : BitVec 64) (n : BitVec 8) (l : List (BitVec 64)) : ex [(18, widG 32), (28, left allF), (30, OfS), (33, WordsS), (34, CopyS), (35, listS), (17, worksS)] ann9 Tryd.f9 [vec x y, .u8 n, .sl64 l] some =
  if (widF n == 32) = true then copyT l (if (listF x y 32 == listF x y 32) = true then some (.bool true) else some (.bool false)) else none := by kernel_rfl
theorem nf9_64 (x y : BitVec 64) (n : BitVec 8) (l : List (BitVec 64)) : ex [(18, widG 64), (28, left allF), (30, OfS), (33, WordsS), (34, CopyS), (35, listS), (17, worksS)] ann9 Tryd.f9 [vec x y, .u8 n, .sl64 l] some =
  if (widF n == 64) = true then copyT l (if (listF x y 64 == listF x y 64) = true then some (.bool true) else some (.bool false)) else none := by kernel_rfl
theorem nf9_8n (x y : BitVec 64) (n : BitVec 8) : ex [(18, widG 8), (28, left allF), (30, OfS), (33, WordsE), (34, CopyE), (35, listS), (17, worksS)] ann9 Tryd.f9 [vec x y, .u8 n, nilS] some =
  if (widF n == 8) = true then (if (listF x y 8 == listF x y 8) = true then some (.bool true) else some (.bool false)) else none := by kernel_rfl
theorem nf9_8e (x y : BitVec 64) (n : BitVec 8) (a : Addr) : ex [(18, widG 8), (28, left allF), (30, OfS), (33, WordsE), (34, CopyE), (35, listS), (17, worksS)] ann9 Tryd.f9 [vec x y, .u8 n, .c (.slice (some a) 0 0)] some =
  if (widF n == 8) = true then (if (listF x y 8 == listF x y 8) = true then some (.bool true) else some (.bool false)) else none := by kernel_rfl
theorem nf9_8z (x y : BitVec 64) (n : BitVec 8) : ex [(18, widG 8), (28, left allF), (30, OfS), (33, WordsE), (34, CopyE), (35, listS), (17, worksS)] ann9 Tryd.f9 [vec x y, .u8 n, .sl64 []] some =
  if (widF n == 8) = true then (if (listF x y 8 == listF x y 8) = true then some (.bool true) else some (.bool false)) else none := by kernel_rfl
theorem nf9_16n (x y : BitVec 64) (n : BitVec 8) : ex [(18, widG 16), (28, left allF), (30, OfS), (33, WordsE), (34, CopyE), (35, listS), (17, worksS)] ann9 Tryd.f9 [vec x y, .u8 n, nilS] some =
  if (widF n == 16) = true then (if (listF x y 16 == listF x y 16) = true then some (.bool true) else some (.bool false)) else none := by kernel_rfl
theorem nf9_16e (x y : BitVec 64) (n : BitVec 8) (a : Addr) : ex [(18, widG 16), (28, left allF), (30, OfS), (33, WordsE), (34, CopyE), (35, listS), (17, worksS)] ann9 Tryd.f9 [vec x y, .u8 n, .c (.slice (some a) 0 0)] some =
  if (widF n == 16) = true then (if (listF x y 16 == listF x y 16) = true then some (.bool true) else some (.bool false)) else none := by kernel_rfl
theorem nf9_16z (x y : BitVec 64) (n : BitVec 8) : ex [(18, widG 16), (28, left allF), (30, OfS), (33, WordsE), (34, CopyE), (35, listS), (17, worksS)] ann9 Tryd.f9 [vec x y, .u8 n, .sl64 []] some =
  if (widF n == 16) = true then (if (listF x y 16 == listF x y 16) = true then some (.bool true) else some (.bool false)) else none := by kernel_rfl
theorem nf9_32n (x y : BitVec 64) (n : BitVec 8) : ex [(18, widG 32), (28, left allF), (30, OfS), (33, WordsE), (34, CopyE), (35, listS), (17, worksS)] ann9 Tryd.f9 [vec x y, .u8 n, nilS] some =
  if (widF n == 32) = true then (if (listF x y 32 == listF x y 32) = true then some (.bool true) else some (.bool false)) else none := by kernel_rfl
theorem nf9_32e (x y : BitVec 64) (n : BitVec 8) (a : Addr) : ex [(18, widG 32), (28, left allF), (30, OfS), (33, WordsE), (34, CopyE), (35, listS), (17, worksS)] ann9 Tryd.f9 [vec x y, .u8 n, .c (.slice (some a) 0 0)] some =
  if (widF n == 32) = true then (if (listF x y 32 == listF x y 32) = true then some (.bool true) else some (.bool false)) else none := by kernel_rfl
theorem nf9_32z (x y : BitVec 64) (n : BitVec 8) : ex [(18, widG 32), (28, left allF), (30, OfS), (33, WordsE), (34, CopyE), (35, listS), (17, worksS)] ann9 Tryd.f9 [vec x y, .u8 n, .sl64 []] some =
  if (widF n == 32) = true then (if (listF x y 32 == listF x y 32) = true then some (.bool true) else some (.bool false)) else none := by kernel_rfl
theorem nf9_64n (x y : BitVec 64) (n : BitVec 8) : ex [(18, widG 64), (28, left allF), (30, OfS), (33, WordsE), (34, CopyE), (35, listS), (17, worksS)] ann9 Tryd.f9 [vec x y, .u8 n, nilS] some =
  if (widF n == 64) = true then (if (listF x y 64 == listF x y 64) = true then some (.bool true) else some (.bool false)) else none := by kernel_rfl
theorem nf9_64e (x y : BitVec 64) (n : BitVec 8) (a : Addr) : ex [(18, widG 64), (28, left allF), (30, OfS), (33, WordsE), (34, CopyE), (35, listS), (17, worksS)] ann9 Tryd.f9 [vec x y, .u8 n, .c (.slice (some a) 0 0)] some =
  if (widF n == 64) = true then (if (listF x y 64 == listF x y 64) = true then some (.bool true) else some (.bool false)) else none := by kernel_rfl
theorem nf9_64z (x y : BitVec 64) (n : BitVec 8) : ex [(18, widG 64), (28, left allF), (30, OfS), (33, WordsE), (34, CopyE), (35, listS), (17, worksS)] ann9 Tryd.f9 [vec x y, .u8 n, .sl64 []] some =
  if (widF n == 64) = true then (if (listF x y 64 == listF x y 64) = true then some (.bool true) else some (.bool false)) else none := by kernel_rfl
theorem copyT_eq {l : List (BitVec 64)} {d : Option D} (h0 : l.length ≠ 0) (h1 : l.length * 8 ≤ 140737488355328) : copyT l d = d := by
  have h2 : l.length < 2 ^ 62 := by omega
  simp [copyT, wordsT, inn_true, tk_eq, h0, h1, h2]
def okL9 : List D → Bool
  | [.agg [.u64 _, .u64 _], .u8 _, .sl64 l] => decide (l.length * 8 ≤ 140737488355328)
  | [.agg [.u64 _, .u64 _], .u8 _, .c (.slice none 0 0)] => true
  | [.agg [.u64 _, .u64 _], .u8 _, .c (.slice (some _) 0 0)] => true
  | _ => false
theorem pt9s (x y : BitVec 64) (n : BitVec 8) (l : List (BitVec 64)) (h0 : l.length ≠ 0) (h1 : l.length * 8 ≤ 140737488355328) : Pt Tryd.prog G0 9 [vec x y, .u8 n, .sl64 l] (.bool true) := by
  rcases okW_cases (okW_wid n) with h | h | h | h
  · refine (execFn_sound (ann := ann9) (TableOK.cons (wid18g 8) (TableOK.cons All28.left (TableOK.cons (OfJ Of30) (TableOK.cons Words33 (TableOK.cons Copy34 (TableOK.cons list35 (TableOK.cons works17 TableOK.nil))))))) mixed Tryd.func9 (by kernel_rfl) 50).pt ((nf9_8 x y n l).trans ?_)
    simp only [h, beq_self_eq_true, if_true, copyT_eq h0 h1]
  · refine (execFn_sound (ann := ann9) (TableOK.cons (wid18g 16) (TableOK.cons All28.left (TableOK.cons (OfJ Of30) (TableOK.cons Words33 (TableOK.cons Copy34 (TableOK.cons list35 (TableOK.cons works17 TableOK.nil))))))) mixed Tryd.func9 (by kernel_rfl) 50).pt ((nf9_16 x y n l).trans ?_)
    simp only [h, beq_self_eq_true, if_true, copyT_eq h0 h1]
  · refine (execFn_sound (ann := ann9) (TableOK.cons (wid18g 32) (TableOK.cons All28.left (TableOK.cons (OfJ Of30) (TableOK.cons Words33 (TableOK.cons Copy34 (TableOK.cons list35 (TableOK.cons works17 TableOK.nil))))))) mixed Tryd.func9 (by kernel_rfl) 50).pt ((nf9_32 x y n l).trans ?_)
    simp only [h, beq_self_eq_true, if_true, copyT_eq h0 h1]
  · refine (execFn_sound (ann := ann9) (TableOK.cons (wid18g 64) (TableOK.cons All28.left (TableOK.cons (OfJ Of30) (TableOK.cons Words33 (TableOK.cons Copy34 (TableOK.cons list35 (TableOK.cons works17 TableOK.nil))))))) mixed Tryd.func9 (by kernel_rfl) 50).pt ((nf9_64 x y n l).trans ?_)
    simp only [h, beq_self_eq_true, if_true, copyT_eq h0 h1]
theorem pt9n (x y : BitVec 64) (n : BitVec 8) : Pt Tryd.prog G0 9 [vec x y, .u8 n, nilS] (.bool true) := by
  rcases okW_cases (okW_wid n) with h | h | h | h
  · refine (execFn_sound (ann := ann9) (TableOK.cons (wid18g 8) (TableOK.cons All28.left (TableOK.cons (OfJ Of30) (TableOK.cons Words33e (TableOK.cons Copy34e (TableOK.cons list35 (TableOK.cons works17 TableOK.nil))))))) mixed Tryd.func9 (by kernel_rfl) 50).pt ((nf9_8n x y n).trans ?_)
    simp only [h, beq_self_eq_true, if_true]
  · refine (execFn_sound (ann := ann9) (TableOK.cons (wid18g 16) (TableOK.cons All28.left (TableOK.cons (OfJ Of30) (TableOK.cons Words33e (TableOK.cons Copy34e (TableOK.cons list35 (TableOK.cons works17 TableOK.nil))))))) mixed Tryd.func9 (by kernel_rfl) 50).pt ((nf9_16n x y n).trans ?_)
    simp only [h, beq_self_eq_true, if_true]
  · refine (execFn_sound (ann := ann9) (TableOK.cons (wid18g 32) (TableOK.cons All28.left (TableOK.cons (OfJ Of30) (TableOK.cons Words33e (TableOK.cons Copy34e (TableOK.cons list35 (TableOK.cons works17 TableOK.nil))))))) mixed Tryd.func9 (by kernel_rfl) 50).pt ((nf9_32n x y n).trans ?_)
    simp only [h, beq_self_eq_true, if_true]
  · refine (execFn_sound (ann := ann9) (TableOK.cons (wid18g 64) (TableOK.cons All28.left (TableOK.cons (OfJ Of30) (TableOK.cons Words33e (TableOK.cons Copy34e (TableOK.cons list35 (TableOK.cons works17 TableOK.nil))))))) mixed Tryd.func9 (by kernel_rfl) 50).pt ((nf9_64n x y n).trans ?_)
    simp only [h, beq_self_eq_true, if_true]
theorem pt9e (x y : BitVec 64) (n : BitVec 8) (a : Addr) : Pt Tryd.prog G0 9 [vec x y, .u8 n, .c (.slice (some a) 0 0)] (.bool true) := by
  rcases okW_cases (okW_wid n) with h | h | h | h
  · refine (execFn_sound (ann := ann9) (TableOK.cons (wid18g 8) (TableOK.cons All28.left (TableOK.cons (OfJ Of30) (TableOK.cons Words33e (TableOK.cons Copy34e (TableOK.cons list35 (TableOK.cons works17 TableOK.nil))))))) mixed Tryd.func9 (by kernel_rfl) 50).pt ((nf9_8e x y n a).trans ?_)
    simp only [h, beq_self_eq_true, if_true]
  · refine (execFn_sound (ann := ann9) (TableOK.cons (wid18g 16) (TableOK.cons All28.left (TableOK.cons (OfJ Of30) (TableOK.cons Words33e (TableOK.cons Copy34e (TableOK.cons list35 (TableOK.cons works17 TableOK.nil))))))) mixed Tryd.func9 (by kernel_rfl) 50).pt ((nf9_16e x y n a).trans ?_)
    simp only [h, beq_self_eq_true, if_true]
  · refine (execFn_sound (ann := ann9) (TableOK.cons (wid18g 32) (TableOK.cons All28.left (TableOK.cons (OfJ Of30) (TableOK.cons Words33e (TableOK.cons Copy34e (TableOK.cons list35 (TableOK.cons works17 TableOK.nil))))))) mixed Tryd.func9 (by kernel_rfl) 50).pt ((nf9_32e x y n a).trans ?_)
    simp only [h, beq_self_eq_true, if_true]
  · refine (execFn_sound (ann := ann9) (TableOK.cons (wid18g 64) (TableOK.cons All28.left (TableOK.cons (OfJ Of30) (TableOK.cons Words33e (TableOK.cons Copy34e (TableOK.cons list35 (TableOK.cons works17 TableOK.nil))))))) mixed Tryd.func9 (by kernel_rfl) 50).pt ((nf9_64e x y n a).trans ?_)
    simp only [h, beq_self_eq_true, if_true]
theorem pt9z (x y : BitVec 64) (n : BitVec 8) : Pt Tryd.prog G0 9 [vec x y, .u8 n, .sl64 []] (.bool true) := by
  rcases okW_cases (okW_wid n) with h | h | h | h
  · refine (execFn_sound (ann := ann9) (TableOK.cons (wid18g 8) (TableOK.cons All28.left (TableOK.cons (OfJ Of30) (TableOK.cons Words33e (TableOK.cons Copy34e (TableOK.cons list35 (TableOK.cons works17 TableOK.nil))))))) mixed Tryd.func9 (by kernel_rfl) 50).pt ((nf9_8z x y n).trans ?_)
    simp only [h, beq_self_eq_true, if_true]
  · refine (execFn_sound (ann := ann9) (TableOK.cons (wid18g 16) (TableOK.cons All28.left (TableOK.cons (OfJ Of30) (TableOK.cons Words33e (TableOK.cons Copy34e (TableOK.cons list35 (TableOK.cons works17 TableOK.nil))))))) mixed Tryd.func9 (by kernel_rfl) 50).pt ((nf9_16z x y n).trans ?_)
    simp only [h, beq_self_eq_true, if_true]
  · refine (execFn_sound (ann := ann9) (TableOK.cons (wid18g 32) (TableOK.cons All28.left (TableOK.cons (OfJ Of30) (TableOK.cons Words33e (TableOK.cons Copy34e (TableOK.cons list35 (TableOK.cons works17 TableOK.nil))))))) mixed Tryd.func9 (by kernel_rfl) 50).pt ((nf9_32z x y n).trans ?_)
    simp only [h, beq_self_eq_true, if_true]
  · refine (execFn_sound (ann := ann9) (TableOK.cons (wid18g 64) (TableOK.cons All28.left (TableOK.cons (OfJ Of30) (TableOK.cons Words33e (TableOK.cons Copy34e (TableOK.cons list35 (TableOK.cons works17 TableOK.nil))))))) mixed Tryd.func9 (by kernel_rfl) 50).pt ((nf9_64z x y n).trans ?_)
    simp only [h, beq_self_eq_true, if_true]
theorem fresh9 : Snd 9 (trueS okL9) := by
  refine Sound.of_ptG fun ds d h => ?_
  simp only [Option.some.injEq, Prod.mk.injEq] at h
  obtain ⟨h, rfl⟩ := h
  unfold okL9 at h
  split at h
  · rename_i x y n l
    have h1 := of_decide_eq_true h
    cases l with
    | nil => exact pt9z x y n
    | cons a l => exact pt9s x y n (a :: l) (by simp) h1
  · rename_i x y n
    exact pt9n x y n
  · rename_i x y n a
    exact pt9e x y n a
  · cases h
end Go.L06

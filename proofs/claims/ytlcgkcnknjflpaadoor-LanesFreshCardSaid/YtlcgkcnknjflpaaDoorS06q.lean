/-
  Part of the proof; what its functions and lemmas say stands in the text.
-/
import Derived.Test.YtlcgkcnknjflpaaDoorS06o
import Derived.Test.YtlcgkcnknjflpaaDoorEv25
set_option linter.unusedSimpArgs false
set_option linter.unusedVariables false
/-!
Chapter 06: LanesLists, what it answers.
-/
namespace Go.L06
open Go.Ev Go.Proofs Go.RowKit Go.Rt

def inn (l : List (BitVec 64)) : Bool := decide (0 + l.length ≤ l.length)
def tk (l : List (BitVec 64)) : List (BitVec 64) := List.take l.length (List.drop 0 l)
theorem inn_true (l : List (BitVec 64)) : inn l = true := by simp [inn]
theorem tk_eq (l : List (BitVec 64)) : tk l = l := by simp [tk]
def splT (w : Int) (n : BitVec 64) : Option D :=
  if (ifF (isF w n) (splW w n) == ifF (isF w n) (splW w n) && ifF (isF w n) (splW w n) == ifF (isF w n) (splW w n)) = true then
    if (errF (isF w n) == errF (isF w n)) = true then some (.bool true) else some (.bool false) else some (.bool false)
def ofT (w : Int) (l : List (BitVec 64)) (r : Option D) : Option D :=
  if (ifF (okOf w (tk l)) (vecF w (tk l)).1 == ifF (okOf w (tk l)) (vecF w (tk l)).1 && ifF (okOf w (tk l)) (vecF w (tk l)).2 == ifF (okOf w (tk l)) (vecF w (tk l)).2) = true then
    if (errF (okOf w (tk l)) == errF (okOf w (tk l))) = true then r else some (.bool false) else some (.bool false)
def allT (x y : BitVec 64) (w : Int) (r : Option D) : Option D :=
  if (inn (listF x y w) && (inn (listF x y w) && true)) = true then
    if decide ((tk (listF x y w)).length < 2 ^ 62 ∧ (tk (listF x y w)).length < 2 ^ 62) = true then
      if (tk (listF x y w) == tk (listF x y w)) = true then r else some (.bool false) else none else none
theorem splT_eq (w : Int) (n : BitVec 64) : splT w n = some (.bool true) := by simp [splT]
theorem ofT_eq (w : Int) (l : List (BitVec 64)) (r : Option D) : ofT w l r = r := by simp [ofT]
theorem allT_eq (x y : BitVec 64) {w : Int} (r : Option D) (hw : okW w = true) : allT x y w r = r := by
  have h : (listF x y w).length < 2 ^ 62 := by
    rw [listF_length]
    rcases okW_cases hw with rfl | rfl | rfl | rfl <;> decide
  simp [allT, inn_true, tk_eq, h]
theorem nf8ys (x y n : BitVec 64) (w : Int) (l : List (BitVec 64)) : ex [(28, left allF), (29, left allF), (30, OfS), (31, OfS), (23, SplS), (32, SplS), (33, WordsS), (17, worksS)] (fun _ => []) Tryd.f8 [vec x y, .i .i64 w, .sl64 l, .u64 n] some = if okW w = true then if okW w = true then if (inn l && true) = true then if (inn l && true) = true then allT x y w (ofT w l (splT w n)) else none else none else none else none := by kernel_rfl
theorem pnf8ys (x y n : BitVec 64) (w : Int) (l : List (BitVec 64)) (h : okW w = true) : Pt Tryd.prog G0 8 [vec x y, .i .i64 w, .sl64 l, .u64 n] (.bool true) := by
  refine (execFn_sound (ann := fun _ => []) (TableOK.cons All28.left (TableOK.cons All29.left (TableOK.cons (OfJ Of30) (TableOK.cons (OfJ Of31) (TableOK.cons Spl23 (TableOK.cons Spl32 (TableOK.cons Words33 (TableOK.cons works17 TableOK.nil)))))))) mixed Tryd.func8 (by kernel_rfl) 50).pt ((nf8ys x y n w l).trans ?_)
  simp only [h, splT_eq, Bool.not_false, if_true, inn_true, Bool.and_self, Bool.and_true, ofT_eq, allT_eq x y _ h]
theorem nf8yn (x y n : BitVec 64) (w : Int) : ex [(28, left allF), (29, left allF), (30, OfS), (31, OfS), (23, SplS), (32, SplS), (33, WordsS), (17, worksS)] (fun _ => []) Tryd.f8 [vec x y, .i .i64 w, nilS, .u64 n] some = if okW w = true then if okW w = true then allT x y w (splT w n) else none else none := by kernel_rfl
theorem pnf8yn (x y n : BitVec 64) (w : Int) (h : okW w = true) : Pt Tryd.prog G0 8 [vec x y, .i .i64 w, nilS, .u64 n] (.bool true) := by
  refine (execFn_sound (ann := fun _ => []) (TableOK.cons All28.left (TableOK.cons All29.left (TableOK.cons (OfJ Of30) (TableOK.cons (OfJ Of31) (TableOK.cons Spl23 (TableOK.cons Spl32 (TableOK.cons Words33 (TableOK.cons works17 TableOK.nil)))))))) mixed Tryd.func8 (by kernel_rfl) 50).pt ((nf8yn x y n w).trans ?_)
  simp only [h, splT_eq, Bool.not_false, if_true, allT_eq x y _ h]
theorem nf8ye (x y n : BitVec 64) (w : Int) (a : Addr) : ex [(28, left allF), (29, left allF), (30, OfE), (31, OfE), (23, SplS), (32, SplS), (33, WordsS), (17, worksS)] (fun _ => []) Tryd.f8 [vec x y, .i .i64 w, .c (.slice (some a) 0 0), .u64 n] some = if okW w = true then if okW w = true then allT x y w (splT w n) else none else none := by kernel_rfl
theorem pnf8ye (x y n : BitVec 64) (w : Int) (a : Addr) (h : okW w = true) : Pt Tryd.prog G0 8 [vec x y, .i .i64 w, .c (.slice (some a) 0 0), .u64 n] (.bool true) := by
  refine (execFn_sound (ann := fun _ => []) (TableOK.cons All28.left (TableOK.cons All29.left (TableOK.cons Of30e (TableOK.cons Of31e (TableOK.cons Spl23 (TableOK.cons Spl32 (TableOK.cons Words33 (TableOK.cons works17 TableOK.nil)))))))) mixed Tryd.func8 (by kernel_rfl) 50).pt ((nf8ye x y n w a).trans ?_)
  simp only [h, splT_eq, Bool.not_false, if_true, allT_eq x y _ h]
theorem nf8ns (x y n : BitVec 64) (w : Int) (l : List (BitVec 64)) : ex [(28, right allF), (29, right allF), (30, OfS), (31, OfS), (23, SplS), (32, SplS), (33, WordsN), (17, worksS)] (fun _ => []) Tryd.f8 [vec x y, .i .i64 w, .sl64 l, .u64 n] some = if (!okW w) = true then if (!okW w) = true then if (inn l && true) = true then if (inn l && true) = true then ofT w l (splT w n) else none else none else none else none := by kernel_rfl
theorem pnf8ns (x y n : BitVec 64) (w : Int) (l : List (BitVec 64)) (h : okW w = false) : Pt Tryd.prog G0 8 [vec x y, .i .i64 w, .sl64 l, .u64 n] (.bool true) := by
  refine (execFn_sound (ann := fun _ => []) (TableOK.cons All28.right (TableOK.cons All29.right (TableOK.cons (OfJ Of30) (TableOK.cons (OfJ Of31) (TableOK.cons Spl23 (TableOK.cons Spl32 (TableOK.cons Words33n (TableOK.cons works17 TableOK.nil)))))))) mixed Tryd.func8 (by kernel_rfl) 50).pt ((nf8ns x y n w l).trans ?_)
  simp only [h, splT_eq, Bool.not_false, if_true, inn_true, Bool.and_self, Bool.and_true, ofT_eq]
theorem nf8nn (x y n : BitVec 64) (w : Int) : ex [(28, right allF), (29, right allF), (30, OfS), (31, OfS), (23, SplS), (32, SplS), (33, WordsN), (17, worksS)] (fun _ => []) Tryd.f8 [vec x y, .i .i64 w, nilS, .u64 n] some = if (!okW w) = true then if (!okW w) = true then splT w n else none else none := by kernel_rfl
theorem pnf8nn (x y n : BitVec 64) (w : Int) (h : okW w = false) : Pt Tryd.prog G0 8 [vec x y, .i .i64 w, nilS, .u64 n] (.bool true) := by
  refine (execFn_sound (ann := fun _ => []) (TableOK.cons All28.right (TableOK.cons All29.right (TableOK.cons (OfJ Of30) (TableOK.cons (OfJ Of31) (TableOK.cons Spl23 (TableOK.cons Spl32 (TableOK.cons Words33n (TableOK.cons works17 TableOK.nil)))))))) mixed Tryd.func8 (by kernel_rfl) 50).pt ((nf8nn x y n w).trans ?_)
  simp only [h, splT_eq, Bool.not_false, if_true]
theorem nf8ne (x y n : BitVec 64) (w : Int) (a : Addr) : ex [(28, right allF), (29, right allF), (30, OfE), (31, OfE), (23, SplS), (32, SplS), (33, WordsN), (17, worksS)] (fun _ => []) Tryd.f8 [vec x y, .i .i64 w, .c (.slice (some a) 0 0), .u64 n] some = if (!okW w) = true then if (!okW w) = true then splT w n else none else none := by kernel_rfl
theorem pnf8ne (x y n : BitVec 64) (w : Int) (a : Addr) (h : okW w = false) : Pt Tryd.prog G0 8 [vec x y, .i .i64 w, .c (.slice (some a) 0 0), .u64 n] (.bool true) := by
  refine (execFn_sound (ann := fun _ => []) (TableOK.cons All28.right (TableOK.cons All29.right (TableOK.cons Of30e (TableOK.cons Of31e (TableOK.cons Spl23 (TableOK.cons Spl32 (TableOK.cons Words33n (TableOK.cons works17 TableOK.nil)))))))) mixed Tryd.func8 (by kernel_rfl) 50).pt ((nf8ne x y n w a).trans ?_)
  simp only [h, splT_eq, Bool.not_false, if_true]

def okL8 : List D → Bool
  | [.agg [.u64 _, .u64 _], .i .i64 _, .sl64 _, .u64 _] => true
  | [.agg [.u64 _, .u64 _], .i .i64 _, .c (.slice none 0 0), .u64 _] => true
  | [.agg [.u64 _, .u64 _], .i .i64 _, .c (.slice (some _) 0 0), .u64 _] => true
  | _ => false
theorem lists8 : Snd 8 (trueS okL8) := by
  refine Sound.of_ptG fun ds d h => ?_
  simp only [Option.some.injEq, Prod.mk.injEq] at h
  obtain ⟨h, rfl⟩ := h
  unfold okL8 at h
  split at h
  · rename_i x y w l n
    cases hw : okW w
    · exact pnf8ns x y n w l hw
    · exact pnf8ys x y n w l hw
  · rename_i x y w n
    cases hw : okW w
    · exact pnf8nn x y n w hw
    · exact pnf8yn x y n w hw
  · rename_i x y w a n
    cases hw : okW w
    · exact pnf8ne x y n w a hw
    · exact pnf8ye x y n w a hw
  · cases h
end Go.L06

/-
  PROVED HERE: FloatsPlaces, for every input: of bits that are more than a width has, of other widths, and of what is no operator of that kind, the answer is refused. No conditions beyond the row's own.
-/
import Derived.Test.YtieeafjcnomakaaF04w
import Derived.Test.YtieeafjcnomakaaF04r
import Derived.Test.YtieeafjcnomakaaF04z
set_option linter.unusedSimpArgs false
set_option linter.unusedVariables false
namespace Go.L04
open Go.Ev Go.Proofs Go.RowKit Go.Wh Go.Fl

def FA : Option D := some (.bool false)
def TR : Option D := some (.bool true)
def p4 (h1 m : Bool) : Option D := if (h1 == m) = true then TR else FA
def p3k (g1 h1 m x : Bool) : Option D := if (g1 == x) = true then p4 h1 m else FA
def p3 (g1 h1 m bo ge17 le22 : Bool) : Option D := if bo = true then (if ge17 = true then p3k g1 h1 m le22 else p3k g1 h1 m false) else p3k g1 h1 m false
def p2k (f1 g1 h1 m bo ge17 le22 x : Bool) : Option D := if (f1 == x) = true then p3 g1 h1 m bo ge17 le22 else FA
def p2 (f1 g1 h1 m bo ge10 le16 ge17 le22 : Bool) : Option D := if m = true then (if ge10 = true then p2k f1 g1 h1 m bo ge17 le22 le16 else p2k f1 g1 h1 m bo ge17 le22 false) else p2k f1 g1 h1 m bo ge17 le22 false
def p1k (e1 f1 g1 h1 m bo ge10 le16 ge17 le22 x : Bool) : Option D := if (e1 == x) = true then p2 f1 g1 h1 m bo ge10 le16 ge17 le22 else FA
def p1 (e1 f1 g1 h1 m bo ge1 le9 ge10 le16 ge17 le22 : Bool) : Option D := if bo = true then (if ge1 = true then p1k e1 f1 g1 h1 m bo ge10 le16 ge17 le22 le9 else p1k e1 f1 g1 h1 m bo ge10 le16 ge17 le22 false) else p1k e1 f1 g1 h1 m bo ge10 le16 ge17 le22 false
def p0 (e1 f1 g1 h1 w64 cb m ge1 le9 ge10 le16 ge17 le22 : Bool) : Option D := if m = true then (if w64 = false then p1 e1 f1 g1 h1 m cb ge1 le9 ge10 le16 ge17 le22 else p1 e1 f1 g1 h1 m true ge1 le9 ge10 le16 ge17 le22) else p1 e1 f1 g1 h1 m false ge1 le9 ge10 le16 ge17 le22
def pT (e1 f1 g1 h1 w64 w32 c cb ge1 le9 ge10 le16 ge17 le22 : Bool) : Option D := if w64 = false then (if w32 = true then p0 e1 f1 g1 h1 w64 cb c ge1 le9 ge10 le16 ge17 le22 else p0 e1 f1 g1 h1 w64 cb false ge1 le9 ge10 le16 ge17 le22) else p0 e1 f1 g1 h1 w64 cb true ge1 le9 ge10 le16 ge17 le22
section
variable (V : WV) (E : CE) (V1 : BitVec 8 → Int → BitVec 64 → BitVec 64) (E1 : BitVec 8 → Int → BitVec 64 → Int) (V3 : CV) (E3 : CE) (V4 : Int → BitVec 64 → Bool) (E4 : Int → BitVec 64 → Int) (o : BitVec 8) (a b : BitVec 64)
theorem nf12a : ex [(13, twoG V E), (25, oneG V1 E1), (16, thanG V3 E3), (18, nonG V4 E4), (15, worksS)] (fun _ => []) Try.f12 [.u8 o, .i .i64 (64 : Int), .u64 a, .u64 b] some =
  pT (E o (64 : Int) a b == 0) (E1 o (64 : Int) a == 0) (E3 o (64 : Int) a b == 0) (E4 (64 : Int) a == 0) ((64 : Int) == 64) ((64 : Int) == 32) (a >>> 32 == 0#64) (b >>> 32 == 0#64) (decide (BitVec.ofInt 8 1 ≤ o)) (decide (o ≤ BitVec.ofInt 8 9)) (decide (BitVec.ofInt 8 10 ≤ o)) (decide (o ≤ BitVec.ofInt 8 16)) (decide (BitVec.ofInt 8 17 ≤ o)) (decide (o ≤ BitVec.ofInt 8 22)) := by kernel_rfl
theorem nf12b : ex [(13, twoG V E), (25, oneG V1 E1), (16, thanG V3 E3), (18, nonG V4 E4), (15, worksS)] (fun _ => []) Try.f12 [.u8 o, .i .i64 (32 : Int), .u64 a, .u64 b] some =
  pT (E o (32 : Int) a b == 0) (E1 o (32 : Int) a == 0) (E3 o (32 : Int) a b == 0) (E4 (32 : Int) a == 0) ((32 : Int) == 64) ((32 : Int) == 32) (a >>> 32 == 0#64) (b >>> 32 == 0#64) (decide (BitVec.ofInt 8 1 ≤ o)) (decide (o ≤ BitVec.ofInt 8 9)) (decide (BitVec.ofInt 8 10 ≤ o)) (decide (o ≤ BitVec.ofInt 8 16)) (decide (BitVec.ofInt 8 17 ≤ o)) (decide (o ≤ BitVec.ofInt 8 22)) := by kernel_rfl
/-! no width: each refuses -/
noncomputable def twK (V : WV) (E : CE) : Ev.Spec := guarded fun | [.u8 o, .i .i64 w, .u64 a, .u64 b] => some (E o w a b == 2, .tup [.u64 (V o w a b), .i .i64 2]) | _ => none
noncomputable def onK (V : BitVec 8 → Int → BitVec 64 → BitVec 64) (E : BitVec 8 → Int → BitVec 64 → Int) : Ev.Spec := guarded fun | [.u8 o, .i .i64 w, .u64 a] => some (E o w a == 2, .tup [.u64 (V o w a), .i .i64 2]) | _ => none
noncomputable def thK (V : CV) (E : CE) : Ev.Spec := guarded fun | [.u8 o, .i .i64 w, .u64 a, .u64 b] => some (E o w a b == 2, .tup [.bool (V o w a b), .i .i64 2]) | _ => none
noncomputable def noK (V : Int → BitVec 64 → Bool) (E : Int → BitVec 64 → Int) : Ev.Spec := guarded fun | [.i .i64 w, .u64 a] => some (E w a == 2, .tup [.bool (V w a), .i .i64 2]) | _ => none
def kT (e f g h : Bool) : Option D := if e = true then (if f = true then (if g = true then (if h = true then TR else none) else none) else none) else none
noncomputable abbrev tbK : List (Nat × Ev.Spec) := [(13, twK V E), (25, onK V1 E1), (16, thK V3 E3), (18, noK V4 E4), (15, worksS)]
theorem nkN (n : Nat) : ex (tbK V E V1 E1 V3 E3 V4 E4) (fun _ => []) Try.f12 [.u8 o, .i .i64 (Int.negSucc n), .u64 a, .u64 b] some = kT (E o (Int.negSucc n) a b == 2) (E1 o (Int.negSucc n) a == 2) (E3 o (Int.negSucc n) a b == 2) (E4 (Int.negSucc n) a == 2) := by kernel_rfl
theorem nkP (n : Nat) : ex (tbK V E V1 E1 V3 E3 V4 E4) (fun _ => []) Try.f12 [.u8 o, .i .i64 (Int.ofNat (n + 65)), .u64 a, .u64 b] some = kT (E o (Int.ofNat (n + 65)) a b == 2) (E1 o (Int.ofNat (n + 65)) a == 2) (E3 o (Int.ofNat (n + 65)) a b == 2) (E4 (Int.ofNat (n + 65)) a == 2) := by kernel_rfl
theorem nk0 : ex (tbK V E V1 E1 V3 E3 V4 E4) (fun _ => []) Try.f12 [.u8 o, .i .i64 (0 : Int), .u64 a, .u64 b] some = kT (E o (0 : Int) a b == 2) (E1 o (0 : Int) a == 2) (E3 o (0 : Int) a b == 2) (E4 (0 : Int) a == 2) := by kernel_rfl
theorem nk1 : ex (tbK V E V1 E1 V3 E3 V4 E4) (fun _ => []) Try.f12 [.u8 o, .i .i64 (1 : Int), .u64 a, .u64 b] some = kT (E o (1 : Int) a b == 2) (E1 o (1 : Int) a == 2) (E3 o (1 : Int) a b == 2) (E4 (1 : Int) a == 2) := by kernel_rfl
theorem nk2 : ex (tbK V E V1 E1 V3 E3 V4 E4) (fun _ => []) Try.f12 [.u8 o, .i .i64 (2 : Int), .u64 a, .u64 b] some = kT (E o (2 : Int) a b == 2) (E1 o (2 : Int) a == 2) (E3 o (2 : Int) a b == 2) (E4 (2 : Int) a == 2) := by kernel_rfl
theorem nk3 : ex (tbK V E V1 E1 V3 E3 V4 E4) (fun _ => []) Try.f12 [.u8 o, .i .i64 (3 : Int), .u64 a, .u64 b] some = kT (E o (3 : Int) a b == 2) (E1 o (3 : Int) a == 2) (E3 o (3 : Int) a b == 2) (E4 (3 : Int) a == 2) := by kernel_rfl
theorem nk4 : ex (tbK V E V1 E1 V3 E3 V4 E4) (fun _ => []) Try.f12 [.u8 o, .i .i64 (4 : Int), .u64 a, .u64 b] some = kT (E o (4 : Int) a b == 2) (E1 o (4 : Int) a == 2) (E3 o (4 : Int) a b == 2) (E4 (4 : Int) a == 2) := by kernel_rfl
theorem nk5 : ex (tbK V E V1 E1 V3 E3 V4 E4) (fun _ => []) Try.f12 [.u8 o, .i .i64 (5 : Int), .u64 a, .u64 b] some = kT (E o (5 : Int) a b == 2) (E1 o (5 : Int) a == 2) (E3 o (5 : Int) a b == 2) (E4 (5 : Int) a == 2) := by kernel_rfl
theorem nk6 : ex (tbK V E V1 E1 V3 E3 V4 E4) (fun _ => []) Try.f12 [.u8 o, .i .i64 (6 : Int), .u64 a, .u64 b] some = kT (E o (6 : Int) a b == 2) (E1 o (6 : Int) a == 2) (E3 o (6 : Int) a b == 2) (E4 (6 : Int) a == 2) := by kernel_rfl
theorem nk7 : ex (tbK V E V1 E1 V3 E3 V4 E4) (fun _ => []) Try.f12 [.u8 o, .i .i64 (7 : Int), .u64 a, .u64 b] some = kT (E o (7 : Int) a b == 2) (E1 o (7 : Int) a == 2) (E3 o (7 : Int) a b == 2) (E4 (7 : Int) a == 2) := by kernel_rfl
theorem nk8 : ex (tbK V E V1 E1 V3 E3 V4 E4) (fun _ => []) Try.f12 [.u8 o, .i .i64 (8 : Int), .u64 a, .u64 b] some = kT (E o (8 : Int) a b == 2) (E1 o (8 : Int) a == 2) (E3 o (8 : Int) a b == 2) (E4 (8 : Int) a == 2) := by kernel_rfl
theorem nk9 : ex (tbK V E V1 E1 V3 E3 V4 E4) (fun _ => []) Try.f12 [.u8 o, .i .i64 (9 : Int), .u64 a, .u64 b] some = kT (E o (9 : Int) a b == 2) (E1 o (9 : Int) a == 2) (E3 o (9 : Int) a b == 2) (E4 (9 : Int) a == 2) := by kernel_rfl
theorem nk10 : ex (tbK V E V1 E1 V3 E3 V4 E4) (fun _ => []) Try.f12 [.u8 o, .i .i64 (10 : Int), .u64 a, .u64 b] some = kT (E o (10 : Int) a b == 2) (E1 o (10 : Int) a == 2) (E3 o (10 : Int) a b == 2) (E4 (10 : Int) a == 2) := by kernel_rfl
theorem nk11 : ex (tbK V E V1 E1 V3 E3 V4 E4) (fun _ => []) Try.f12 [.u8 o, .i .i64 (11 : Int), .u64 a, .u64 b] some = kT (E o (11 : Int) a b == 2) (E1 o (11 : Int) a == 2) (E3 o (11 : Int) a b == 2) (E4 (11 : Int) a == 2) := by kernel_rfl
theorem nk12 : ex (tbK V E V1 E1 V3 E3 V4 E4) (fun _ => []) Try.f12 [.u8 o, .i .i64 (12 : Int), .u64 a, .u64 b] some = kT (E o (12 : Int) a b == 2) (E1 o (12 : Int) a == 2) (E3 o (12 : Int) a b == 2) (E4 (12 : Int) a == 2) := by kernel_rfl
theorem nk13 : ex (tbK V E V1 E1 V3 E3 V4 E4) (fun _ => []) Try.f12 [.u8 o, .i .i64 (13 : Int), .u64 a, .u64 b] some = kT (E o (13 : Int) a b == 2) (E1 o (13 : Int) a == 2) (E3 o (13 : Int) a b == 2) (E4 (13 : Int) a == 2) := by kernel_rfl
theorem nk14 : ex (tbK V E V1 E1 V3 E3 V4 E4) (fun _ => []) Try.f12 [.u8 o, .i .i64 (14 : Int), .u64 a, .u64 b] some = kT (E o (14 : Int) a b == 2) (E1 o (14 : Int) a == 2) (E3 o (14 : Int) a b == 2) (E4 (14 : Int) a == 2) := by kernel_rfl
theorem nk15 : ex (tbK V E V1 E1 V3 E3 V4 E4) (fun _ => []) Try.f12 [.u8 o, .i .i64 (15 : Int), .u64 a, .u64 b] some = kT (E o (15 : Int) a b == 2) (E1 o (15 : Int) a == 2) (E3 o (15 : Int) a b == 2) (E4 (15 : Int) a == 2) := by kernel_rfl
theorem nk16 : ex (tbK V E V1 E1 V3 E3 V4 E4) (fun _ => []) Try.f12 [.u8 o, .i .i64 (16 : Int), .u64 a, .u64 b] some = kT (E o (16 : Int) a b == 2) (E1 o (16 : Int) a == 2) (E3 o (16 : Int) a b == 2) (E4 (16 : Int) a == 2) := by kernel_rfl
theorem nk17 : ex (tbK V E V1 E1 V3 E3 V4 E4) (fun _ => []) Try.f12 [.u8 o, .i .i64 (17 : Int), .u64 a, .u64 b] some = kT (E o (17 : Int) a b == 2) (E1 o (17 : Int) a == 2) (E3 o (17 : Int) a b == 2) (E4 (17 : Int) a == 2) := by kernel_rfl
theorem nk18 : ex (tbK V E V1 E1 V3 E3 V4 E4) (fun _ => []) Try.f12 [.u8 o, .i .i64 (18 : Int), .u64 a, .u64 b] some = kT (E o (18 : Int) a b == 2) (E1 o (18 : Int) a == 2) (E3 o (18 : Int) a b == 2) (E4 (18 : Int) a == 2) := by kernel_rfl
theorem nk19 : ex (tbK V E V1 E1 V3 E3 V4 E4) (fun _ => []) Try.f12 [.u8 o, .i .i64 (19 : Int), .u64 a, .u64 b] some = kT (E o (19 : Int) a b == 2) (E1 o (19 : Int) a == 2) (E3 o (19 : Int) a b == 2) (E4 (19 : Int) a == 2) := by kernel_rfl
theorem nk20 : ex (tbK V E V1 E1 V3 E3 V4 E4) (fun _ => []) Try.f12 [.u8 o, .i .i64 (20 : Int), .u64 a, .u64 b] some = kT (E o (20 : Int) a b == 2) (E1 o (20 : Int) a == 2) (E3 o (20 : Int) a b == 2) (E4 (20 : Int) a == 2) := by kernel_rfl
theorem nk21 : ex (tbK V E V1 E1 V3 E3 V4 E4) (fun _ => []) Try.f12 [.u8 o, .i .i64 (21 : Int), .u64 a, .u64 b] some = kT (E o (21 : Int) a b == 2) (E1 o (21 : Int) a == 2) (E3 o (21 : Int) a b == 2) (E4 (21 : Int) a == 2) := by kernel_rfl
theorem nk22 : ex (tbK V E V1 E1 V3 E3 V4 E4) (fun _ => []) Try.f12 [.u8 o, .i .i64 (22 : Int), .u64 a, .u64 b] some = kT (E o (22 : Int) a b == 2) (E1 o (22 : Int) a == 2) (E3 o (22 : Int) a b == 2) (E4 (22 : Int) a == 2) := by kernel_rfl
theorem nk23 : ex (tbK V E V1 E1 V3 E3 V4 E4) (fun _ => []) Try.f12 [.u8 o, .i .i64 (23 : Int), .u64 a, .u64 b] some = kT (E o (23 : Int) a b == 2) (E1 o (23 : Int) a == 2) (E3 o (23 : Int) a b == 2) (E4 (23 : Int) a == 2) := by kernel_rfl
theorem nk24 : ex (tbK V E V1 E1 V3 E3 V4 E4) (fun _ => []) Try.f12 [.u8 o, .i .i64 (24 : Int), .u64 a, .u64 b] some = kT (E o (24 : Int) a b == 2) (E1 o (24 : Int) a == 2) (E3 o (24 : Int) a b == 2) (E4 (24 : Int) a == 2) := by kernel_rfl
theorem nk25 : ex (tbK V E V1 E1 V3 E3 V4 E4) (fun _ => []) Try.f12 [.u8 o, .i .i64 (25 : Int), .u64 a, .u64 b] some = kT (E o (25 : Int) a b == 2) (E1 o (25 : Int) a == 2) (E3 o (25 : Int) a b == 2) (E4 (25 : Int) a == 2) := by kernel_rfl
theorem nk26 : ex (tbK V E V1 E1 V3 E3 V4 E4) (fun _ => []) Try.f12 [.u8 o, .i .i64 (26 : Int), .u64 a, .u64 b] some = kT (E o (26 : Int) a b == 2) (E1 o (26 : Int) a == 2) (E3 o (26 : Int) a b == 2) (E4 (26 : Int) a == 2) := by kernel_rfl
theorem nk27 : ex (tbK V E V1 E1 V3 E3 V4 E4) (fun _ => []) Try.f12 [.u8 o, .i .i64 (27 : Int), .u64 a, .u64 b] some = kT (E o (27 : Int) a b == 2) (E1 o (27 : Int) a == 2) (E3 o (27 : Int) a b == 2) (E4 (27 : Int) a == 2) := by kernel_rfl
theorem nk28 : ex (tbK V E V1 E1 V3 E3 V4 E4) (fun _ => []) Try.f12 [.u8 o, .i .i64 (28 : Int), .u64 a, .u64 b] some = kT (E o (28 : Int) a b == 2) (E1 o (28 : Int) a == 2) (E3 o (28 : Int) a b == 2) (E4 (28 : Int) a == 2) := by kernel_rfl
theorem nk29 : ex (tbK V E V1 E1 V3 E3 V4 E4) (fun _ => []) Try.f12 [.u8 o, .i .i64 (29 : Int), .u64 a, .u64 b] some = kT (E o (29 : Int) a b == 2) (E1 o (29 : Int) a == 2) (E3 o (29 : Int) a b == 2) (E4 (29 : Int) a == 2) := by kernel_rfl
theorem nk30 : ex (tbK V E V1 E1 V3 E3 V4 E4) (fun _ => []) Try.f12 [.u8 o, .i .i64 (30 : Int), .u64 a, .u64 b] some = kT (E o (30 : Int) a b == 2) (E1 o (30 : Int) a == 2) (E3 o (30 : Int) a b == 2) (E4 (30 : Int) a == 2) := by kernel_rfl
theorem nk31 : ex (tbK V E V1 E1 V3 E3 V4 E4) (fun _ => []) Try.f12 [.u8 o, .i .i64 (31 : Int), .u64 a, .u64 b] some = kT (E o (31 : Int) a b == 2) (E1 o (31 : Int) a == 2) (E3 o (31 : Int) a b == 2) (E4 (31 : Int) a == 2) := by kernel_rfl
theorem nk33 : ex (tbK V E V1 E1 V3 E3 V4 E4) (fun _ => []) Try.f12 [.u8 o, .i .i64 (33 : Int), .u64 a, .u64 b] some = kT (E o (33 : Int) a b == 2) (E1 o (33 : Int) a == 2) (E3 o (33 : Int) a b == 2) (E4 (33 : Int) a == 2) := by kernel_rfl
theorem nk34 : ex (tbK V E V1 E1 V3 E3 V4 E4) (fun _ => []) Try.f12 [.u8 o, .i .i64 (34 : Int), .u64 a, .u64 b] some = kT (E o (34 : Int) a b == 2) (E1 o (34 : Int) a == 2) (E3 o (34 : Int) a b == 2) (E4 (34 : Int) a == 2) := by kernel_rfl
theorem nk35 : ex (tbK V E V1 E1 V3 E3 V4 E4) (fun _ => []) Try.f12 [.u8 o, .i .i64 (35 : Int), .u64 a, .u64 b] some = kT (E o (35 : Int) a b == 2) (E1 o (35 : Int) a == 2) (E3 o (35 : Int) a b == 2) (E4 (35 : Int) a == 2) := by kernel_rfl
theorem nk36 : ex (tbK V E V1 E1 V3 E3 V4 E4) (fun _ => []) Try.f12 [.u8 o, .i .i64 (36 : Int), .u64 a, .u64 b] some = kT (E o (36 : Int) a b == 2) (E1 o (36 : Int) a == 2) (E3 o (36 : Int) a b == 2) (E4 (36 : Int) a == 2) := by kernel_rfl
theorem nk37 : ex (tbK V E V1 E1 V3 E3 V4 E4) (fun _ => []) Try.f12 [.u8 o, .i .i64 (37 : Int), .u64 a, .u64 b] some = kT (E o (37 : Int) a b == 2) (E1 o (37 : Int) a == 2) (E3 o (37 : Int) a b == 2) (E4 (37 : Int) a == 2) := by kernel_rfl
theorem nk38 : ex (tbK V E V1 E1 V3 E3 V4 E4) (fun _ => []) Try.f12 [.u8 o, .i .i64 (38 : Int), .u64 a, .u64 b] some = kT (E o (38 : Int) a b == 2) (E1 o (38 : Int) a == 2) (E3 o (38 : Int) a b == 2) (E4 (38 : Int) a == 2) := by kernel_rfl
theorem nk39 : ex (tbK V E V1 E1 V3 E3 V4 E4) (fun _ => []) Try.f12 [.u8 o, .i .i64 (39 : Int), .u64 a, .u64 b] some = kT (E o (39 : Int) a b == 2) (E1 o (39 : Int) a == 2) (E3 o (39 : Int) a b == 2) (E4 (39 : Int) a == 2) := by kernel_rfl
theorem nk40 : ex (tbK V E V1 E1 V3 E3 V4 E4) (fun _ => []) Try.f12 [.u8 o, .i .i64 (40 : Int), .u64 a, .u64 b] some = kT (E o (40 : Int) a b == 2) (E1 o (40 : Int) a == 2) (E3 o (40 : Int) a b == 2) (E4 (40 : Int) a == 2) := by kernel_rfl
theorem nk41 : ex (tbK V E V1 E1 V3 E3 V4 E4) (fun _ => []) Try.f12 [.u8 o, .i .i64 (41 : Int), .u64 a, .u64 b] some = kT (E o (41 : Int) a b == 2) (E1 o (41 : Int) a == 2) (E3 o (41 : Int) a b == 2) (E4 (41 : Int) a == 2) := by kernel_rfl
theorem nk42 : ex (tbK V E V1 E1 V3 E3 V4 E4) (fun _ => []) Try.f12 [.u8 o, .i .i64 (42 : Int), .u64 a, .u64 b] some = kT (E o (42 : Int) a b == 2) (E1 o (42 : Int) a == 2) (E3 o (42 : Int) a b == 2) (E4 (42 : Int) a == 2) := by kernel_rfl
theorem nk43 : ex (tbK V E V1 E1 V3 E3 V4 E4) (fun _ => []) Try.f12 [.u8 o, .i .i64 (43 : Int), .u64 a, .u64 b] some = kT (E o (43 : Int) a b == 2) (E1 o (43 : Int) a == 2) (E3 o (43 : Int) a b == 2) (E4 (43 : Int) a == 2) := by kernel_rfl
theorem nk44 : ex (tbK V E V1 E1 V3 E3 V4 E4) (fun _ => []) Try.f12 [.u8 o, .i .i64 (44 : Int), .u64 a, .u64 b] some = kT (E o (44 : Int) a b == 2) (E1 o (44 : Int) a == 2) (E3 o (44 : Int) a b == 2) (E4 (44 : Int) a == 2) := by kernel_rfl
theorem nk45 : ex (tbK V E V1 E1 V3 E3 V4 E4) (fun _ => []) Try.f12 [.u8 o, .i .i64 (45 : Int), .u64 a, .u64 b] some = kT (E o (45 : Int) a b == 2) (E1 o (45 : Int) a == 2) (E3 o (45 : Int) a b == 2) (E4 (45 : Int) a == 2) := by kernel_rfl
theorem nk46 : ex (tbK V E V1 E1 V3 E3 V4 E4) (fun _ => []) Try.f12 [.u8 o, .i .i64 (46 : Int), .u64 a, .u64 b] some = kT (E o (46 : Int) a b == 2) (E1 o (46 : Int) a == 2) (E3 o (46 : Int) a b == 2) (E4 (46 : Int) a == 2) := by kernel_rfl
theorem nk47 : ex (tbK V E V1 E1 V3 E3 V4 E4) (fun _ => []) Try.f12 [.u8 o, .i .i64 (47 : Int), .u64 a, .u64 b] some = kT (E o (47 : Int) a b == 2) (E1 o (47 : Int) a == 2) (E3 o (47 : Int) a b == 2) (E4 (47 : Int) a == 2) := by kernel_rfl
theorem nk48 : ex (tbK V E V1 E1 V3 E3 V4 E4) (fun _ => []) Try.f12 [.u8 o, .i .i64 (48 : Int), .u64 a, .u64 b] some = kT (E o (48 : Int) a b == 2) (E1 o (48 : Int) a == 2) (E3 o (48 : Int) a b == 2) (E4 (48 : Int) a == 2) := by kernel_rfl
theorem nk49 : ex (tbK V E V1 E1 V3 E3 V4 E4) (fun _ => []) Try.f12 [.u8 o, .i .i64 (49 : Int), .u64 a, .u64 b] some = kT (E o (49 : Int) a b == 2) (E1 o (49 : Int) a == 2) (E3 o (49 : Int) a b == 2) (E4 (49 : Int) a == 2) := by kernel_rfl
theorem nk50 : ex (tbK V E V1 E1 V3 E3 V4 E4) (fun _ => []) Try.f12 [.u8 o, .i .i64 (50 : Int), .u64 a, .u64 b] some = kT (E o (50 : Int) a b == 2) (E1 o (50 : Int) a == 2) (E3 o (50 : Int) a b == 2) (E4 (50 : Int) a == 2) := by kernel_rfl
theorem nk51 : ex (tbK V E V1 E1 V3 E3 V4 E4) (fun _ => []) Try.f12 [.u8 o, .i .i64 (51 : Int), .u64 a, .u64 b] some = kT (E o (51 : Int) a b == 2) (E1 o (51 : Int) a == 2) (E3 o (51 : Int) a b == 2) (E4 (51 : Int) a == 2) := by kernel_rfl
theorem nk52 : ex (tbK V E V1 E1 V3 E3 V4 E4) (fun _ => []) Try.f12 [.u8 o, .i .i64 (52 : Int), .u64 a, .u64 b] some = kT (E o (52 : Int) a b == 2) (E1 o (52 : Int) a == 2) (E3 o (52 : Int) a b == 2) (E4 (52 : Int) a == 2) := by kernel_rfl
theorem nk53 : ex (tbK V E V1 E1 V3 E3 V4 E4) (fun _ => []) Try.f12 [.u8 o, .i .i64 (53 : Int), .u64 a, .u64 b] some = kT (E o (53 : Int) a b == 2) (E1 o (53 : Int) a == 2) (E3 o (53 : Int) a b == 2) (E4 (53 : Int) a == 2) := by kernel_rfl
theorem nk54 : ex (tbK V E V1 E1 V3 E3 V4 E4) (fun _ => []) Try.f12 [.u8 o, .i .i64 (54 : Int), .u64 a, .u64 b] some = kT (E o (54 : Int) a b == 2) (E1 o (54 : Int) a == 2) (E3 o (54 : Int) a b == 2) (E4 (54 : Int) a == 2) := by kernel_rfl
theorem nk55 : ex (tbK V E V1 E1 V3 E3 V4 E4) (fun _ => []) Try.f12 [.u8 o, .i .i64 (55 : Int), .u64 a, .u64 b] some = kT (E o (55 : Int) a b == 2) (E1 o (55 : Int) a == 2) (E3 o (55 : Int) a b == 2) (E4 (55 : Int) a == 2) := by kernel_rfl
theorem nk56 : ex (tbK V E V1 E1 V3 E3 V4 E4) (fun _ => []) Try.f12 [.u8 o, .i .i64 (56 : Int), .u64 a, .u64 b] some = kT (E o (56 : Int) a b == 2) (E1 o (56 : Int) a == 2) (E3 o (56 : Int) a b == 2) (E4 (56 : Int) a == 2) := by kernel_rfl
theorem nk57 : ex (tbK V E V1 E1 V3 E3 V4 E4) (fun _ => []) Try.f12 [.u8 o, .i .i64 (57 : Int), .u64 a, .u64 b] some = kT (E o (57 : Int) a b == 2) (E1 o (57 : Int) a == 2) (E3 o (57 : Int) a b == 2) (E4 (57 : Int) a == 2) := by kernel_rfl
theorem nk58 : ex (tbK V E V1 E1 V3 E3 V4 E4) (fun _ => []) Try.f12 [.u8 o, .i .i64 (58 : Int), .u64 a, .u64 b] some = kT (E o (58 : Int) a b == 2) (E1 o (58 : Int) a == 2) (E3 o (58 : Int) a b == 2) (E4 (58 : Int) a == 2) := by kernel_rfl
theorem nk59 : ex (tbK V E V1 E1 V3 E3 V4 E4) (fun _ => []) Try.f12 [.u8 o, .i .i64 (59 : Int), .u64 a, .u64 b] some = kT (E o (59 : Int) a b == 2) (E1 o (59 : Int) a == 2) (E3 o (59 : Int) a b == 2) (E4 (59 : Int) a == 2) := by kernel_rfl
theorem nk60 : ex (tbK V E V1 E1 V3 E3 V4 E4) (fun _ => []) Try.f12 [.u8 o, .i .i64 (60 : Int), .u64 a, .u64 b] some = kT (E o (60 : Int) a b == 2) (E1 o (60 : Int) a == 2) (E3 o (60 : Int) a b == 2) (E4 (60 : Int) a == 2) := by kernel_rfl
theorem nk61 : ex (tbK V E V1 E1 V3 E3 V4 E4) (fun _ => []) Try.f12 [.u8 o, .i .i64 (61 : Int), .u64 a, .u64 b] some = kT (E o (61 : Int) a b == 2) (E1 o (61 : Int) a == 2) (E3 o (61 : Int) a b == 2) (E4 (61 : Int) a == 2) := by kernel_rfl
theorem nk62 : ex (tbK V E V1 E1 V3 E3 V4 E4) (fun _ => []) Try.f12 [.u8 o, .i .i64 (62 : Int), .u64 a, .u64 b] some = kT (E o (62 : Int) a b == 2) (E1 o (62 : Int) a == 2) (E3 o (62 : Int) a b == 2) (E4 (62 : Int) a == 2) := by kernel_rfl
theorem nk63 : ex (tbK V E V1 E1 V3 E3 V4 E4) (fun _ => []) Try.f12 [.u8 o, .i .i64 (63 : Int), .u64 a, .u64 b] some = kT (E o (63 : Int) a b == 2) (E1 o (63 : Int) a == 2) (E3 o (63 : Int) a b == 2) (E4 (63 : Int) a == 2) := by kernel_rfl
end
theorem nk_all (V : WV) (E : CE) (V1 : BitVec 8 → Int → BitVec 64 → BitVec 64) (E1 : BitVec 8 → Int → BitVec 64 → Int) (V3 : CV) (E3 : CE) (V4 : Int → BitVec 64 → Bool) (E4 : Int → BitVec 64 → Int) (o : BitVec 8) (a b : BitVec 64) (w : Int) (h : wOK w = false) : ex (tbK V E V1 E1 V3 E3 V4 E4) (fun _ => []) Try.f12 [.u8 o, .i .i64 w, .u64 a, .u64 b] some = kT (E o w a b == 2) (E1 o w a == 2) (E3 o w a b == 2) (E4 w a == 2) := by
  cases w with
  | negSucc n => exact nkN V E V1 E1 V3 E3 V4 E4 o a b n
  | ofNat n =>
    rcases Nat.lt_or_ge n 65 with hn | hn
    · match n, hn, h with
      | 0, _, _ => exact nk0 V E V1 E1 V3 E3 V4 E4 o a b
      | 1, _, _ => exact nk1 V E V1 E1 V3 E3 V4 E4 o a b
      | 2, _, _ => exact nk2 V E V1 E1 V3 E3 V4 E4 o a b
      | 3, _, _ => exact nk3 V E V1 E1 V3 E3 V4 E4 o a b
      | 4, _, _ => exact nk4 V E V1 E1 V3 E3 V4 E4 o a b
      | 5, _, _ => exact nk5 V E V1 E1 V3 E3 V4 E4 o a b
      | 6, _, _ => exact nk6 V E V1 E1 V3 E3 V4 E4 o a b
      | 7, _, _ => exact nk7 V E V1 E1 V3 E3 V4 E4 o a b
      | 8, _, _ => exact nk8 V E V1 E1 V3 E3 V4 E4 o a b
      | 9, _, _ => exact nk9 V E V1 E1 V3 E3 V4 E4 o a b
      | 10, _, _ => exact nk10 V E V1 E1 V3 E3 V4 E4 o a b
      | 11, _, _ => exact nk11 V E V1 E1 V3 E3 V4 E4 o a b
      | 12, _, _ => exact nk12 V E V1 E1 V3 E3 V4 E4 o a b
      | 13, _, _ => exact nk13 V E V1 E1 V3 E3 V4 E4 o a b
      | 14, _, _ => exact nk14 V E V1 E1 V3 E3 V4 E4 o a b
      | 15, _, _ => exact nk15 V E V1 E1 V3 E3 V4 E4 o a b
      | 16, _, _ => exact nk16 V E V1 E1 V3 E3 V4 E4 o a b
      | 17, _, _ => exact nk17 V E V1 E1 V3 E3 V4 E4 o a b
      | 18, _, _ => exact nk18 V E V1 E1 V3 E3 V4 E4 o a b
      | 19, _, _ => exact nk19 V E V1 E1 V3 E3 V4 E4 o a b
      | 20, _, _ => exact nk20 V E V1 E1 V3 E3 V4 E4 o a b
      | 21, _, _ => exact nk21 V E V1 E1 V3 E3 V4 E4 o a b
      | 22, _, _ => exact nk22 V E V1 E1 V3 E3 V4 E4 o a b
      | 23, _, _ => exact nk23 V E V1 E1 V3 E3 V4 E4 o a b
      | 24, _, _ => exact nk24 V E V1 E1 V3 E3 V4 E4 o a b
      | 25, _, _ => exact nk25 V E V1 E1 V3 E3 V4 E4 o a b
      | 26, _, _ => exact nk26 V E V1 E1 V3 E3 V4 E4 o a b
      | 27, _, _ => exact nk27 V E V1 E1 V3 E3 V4 E4 o a b
      | 28, _, _ => exact nk28 V E V1 E1 V3 E3 V4 E4 o a b
      | 29, _, _ => exact nk29 V E V1 E1 V3 E3 V4 E4 o a b
      | 30, _, _ => exact nk30 V E V1 E1 V3 E3 V4 E4 o a b
      | 31, _, _ => exact nk31 V E V1 E1 V3 E3 V4 E4 o a b
      | 32, _, h => exact absurd h (by decide)
      | 33, _, _ => exact nk33 V E V1 E1 V3 E3 V4 E4 o a b
      | 34, _, _ => exact nk34 V E V1 E1 V3 E3 V4 E4 o a b
      | 35, _, _ => exact nk35 V E V1 E1 V3 E3 V4 E4 o a b
      | 36, _, _ => exact nk36 V E V1 E1 V3 E3 V4 E4 o a b
      | 37, _, _ => exact nk37 V E V1 E1 V3 E3 V4 E4 o a b
      | 38, _, _ => exact nk38 V E V1 E1 V3 E3 V4 E4 o a b
      | 39, _, _ => exact nk39 V E V1 E1 V3 E3 V4 E4 o a b
      | 40, _, _ => exact nk40 V E V1 E1 V3 E3 V4 E4 o a b
      | 41, _, _ => exact nk41 V E V1 E1 V3 E3 V4 E4 o a b
      | 42, _, _ => exact nk42 V E V1 E1 V3 E3 V4 E4 o a b
      | 43, _, _ => exact nk43 V E V1 E1 V3 E3 V4 E4 o a b
      | 44, _, _ => exact nk44 V E V1 E1 V3 E3 V4 E4 o a b
      | 45, _, _ => exact nk45 V E V1 E1 V3 E3 V4 E4 o a b
      | 46, _, _ => exact nk46 V E V1 E1 V3 E3 V4 E4 o a b
      | 47, _, _ => exact nk47 V E V1 E1 V3 E3 V4 E4 o a b
      | 48, _, _ => exact nk48 V E V1 E1 V3 E3 V4 E4 o a b
      | 49, _, _ => exact nk49 V E V1 E1 V3 E3 V4 E4 o a b
      | 50, _, _ => exact nk50 V E V1 E1 V3 E3 V4 E4 o a b
      | 51, _, _ => exact nk51 V E V1 E1 V3 E3 V4 E4 o a b
      | 52, _, _ => exact nk52 V E V1 E1 V3 E3 V4 E4 o a b
      | 53, _, _ => exact nk53 V E V1 E1 V3 E3 V4 E4 o a b
      | 54, _, _ => exact nk54 V E V1 E1 V3 E3 V4 E4 o a b
      | 55, _, _ => exact nk55 V E V1 E1 V3 E3 V4 E4 o a b
      | 56, _, _ => exact nk56 V E V1 E1 V3 E3 V4 E4 o a b
      | 57, _, _ => exact nk57 V E V1 E1 V3 E3 V4 E4 o a b
      | 58, _, _ => exact nk58 V E V1 E1 V3 E3 V4 E4 o a b
      | 59, _, _ => exact nk59 V E V1 E1 V3 E3 V4 E4 o a b
      | 60, _, _ => exact nk60 V E V1 E1 V3 E3 V4 E4 o a b
      | 61, _, _ => exact nk61 V E V1 E1 V3 E3 V4 E4 o a b
      | 62, _, _ => exact nk62 V E V1 E1 V3 E3 V4 E4 o a b
      | 63, _, _ => exact nk63 V E V1 E1 V3 E3 V4 E4 o a b
      | 64, _, h => exact absurd h (by decide)
      | n + 65, hn, _ => exact absurd hn (by omega)
    · obtain ⟨m, rfl⟩ : ∃ m, n = m + 65 := ⟨n - 65, by omega⟩
      exact nkP V E V1 E1 V3 E3 V4 E4 o a b m
theorem op_two (o : BitVec 8) : (o == 1#8 || o == 2#8 || o == 3#8 || o == 4#8 || o == 5#8 || o == 6#8 || o == 7#8 || o == 8#8 || o == 9#8) = (decide (1#8 ≤ o) && decide (o ≤ 9#8)) := by revert o; decide +kernel
theorem op_one (o : BitVec 8) : onOp o = (decide (10#8 ≤ o) && decide (o ≤ 16#8)) := by revert o; decide +kernel
theorem op_than (o : BitVec 8) : (o == 17#8 || o == 18#8 || o == 19#8 || o == 20#8 || o == 21#8 || o == 22#8) = (decide (17#8 ≤ o) && decide (o ≤ 22#8)) := by revert o; decide +kernel
theorem if02 (b : Bool) : ((if b = true then (0 : Int) else 2) == 0) = b := by cases b <;> rfl
theorem if022 (b c : Bool) : ((if b = true then (if c = true then (0 : Int) else 2) else 2) == 0) = (b && c) := by cases b <;> cases c <;> rfl
theorem pT_ok (w64 w32 c cb ge1 le9 ge10 le16 ge17 le22 : Bool) (h : w32 = true → w64 = false) :
    pT (((w32 || w64) && ((w64 || c) && (w64 || cb))) && (ge1 && le9)) ((((w32 || w64) && (w64 || c))) && (ge10 && le16)) (((w32 || w64) && ((w64 || c) && (w64 || cb))) && (ge17 && le22)) ((w32 || w64) && (w64 || c)) w64 w32 c cb ge1 le9 ge10 le16 ge17 le22 = some (.bool true) := by
  generalize hx : (ge1 && le9) = x
  generalize hy : (ge10 && le16) = y
  generalize hz : (ge17 && le22) = z
  have k1 : ∀ (e1 f1 g1 h1 m bo : Bool), e1 = (bo && x) → f1 = (m && y) → g1 = (bo && z) → h1 = m → p1 e1 f1 g1 h1 m bo ge1 le9 ge10 le16 ge17 le22 = some (.bool true) := by
    intro e1 f1 g1 h1 m bo r1 r2 r3 r4
    subst r1 r2 r3 r4 hx hy hz
    have a4 : p4 h1 h1 = TR := by cases h1 <;> rfl
    have a3 : p3 (bo && (ge17 && le22)) h1 h1 bo ge17 le22 = TR := by
      unfold p3 p3k
      rw [a4]
      cases bo <;> cases ge17 <;> cases le22 <;> rfl
    have a2 : p2 (h1 && (ge10 && le16)) (bo && (ge17 && le22)) h1 h1 bo ge10 le16 ge17 le22 = TR := by
      unfold p2 p2k
      rw [a3]
      cases h1 <;> cases ge10 <;> cases le16 <;> rfl
    unfold p1 p1k
    rw [a2]
    cases bo <;> cases ge1 <;> cases le9 <;> rfl
  unfold pT p0
  cases w64
  · cases w32
    · exact k1 _ _ _ _ false false rfl rfl rfl rfl
    · cases c
      · exact k1 _ _ _ _ false false rfl rfl rfl rfl
      · exact k1 _ _ _ _ true cb (by cases cb <;> rfl) rfl (by cases cb <;> rfl) rfl
  · cases w32
    · exact k1 _ _ _ _ true true rfl rfl rfl rfl
    · exact absurd (h rfl) (by decide)
theorem k_two : Snd 13 (twK ftwV ftwE) := by
  refine Sound.of_ptG fun ds d hd => ?_
  split at hd
  · rename_i o w a b
    rw [Option.some.injEq, Prod.mk.injEq, beq_iff_eq] at hd
    obtain ⟨he, rfl⟩ := hd
    have := f_two.pt (ds := [.u8 o, .i .i64 w, .u64 a, .u64 b]) (d := .tup [.u64 (ftwV o w a b), .i .i64 (ftwE o w a b)]) rfl
    rw [he] at this; exact this
  · cases hd
theorem k_one : Snd 25 (onK onV onE) := by
  refine Sound.of_ptG fun ds d hd => ?_
  split at hd
  · rename_i o w a
    rw [Option.some.injEq, Prod.mk.injEq, beq_iff_eq] at hd
    obtain ⟨he, rfl⟩ := hd
    have := f_one.pt (ds := [.u8 o, .i .i64 w, .u64 a]) (d := .tup [.u64 (onV o w a), .i .i64 (onE o w a)]) rfl
    rw [he] at this; exact this
  · cases hd
theorem k_than : Snd 16 (thK fthV fthE) := by
  refine Sound.of_ptG fun ds d hd => ?_
  split at hd
  · rename_i o w a b
    rw [Option.some.injEq, Prod.mk.injEq, beq_iff_eq] at hd
    obtain ⟨he, rfl⟩ := hd
    have := f_than.pt (ds := [.u8 o, .i .i64 w, .u64 a, .u64 b]) (d := .tup [.bool (fthV o w a b), .i .i64 (fthE o w a b)]) rfl
    rw [he] at this; exact this
  · cases hd
theorem k_none : Snd 18 (noK nonV nonE) := by
  refine Sound.of_ptG fun ds d hd => ?_
  split at hd
  · rename_i w a
    rw [Option.some.injEq, Prod.mk.injEq, beq_iff_eq] at hd
    obtain ⟨he, rfl⟩ := hd
    have := f_none.pt (ds := [.i .i64 w, .u64 a]) (d := .tup [.bool (nonV w a), .i .i64 (nonE w a)]) rfl
    rw [he] at this; exact this
  · cases hd
theorem pT_w (o : BitVec 8) (w : Int) (a b : BitVec 64) : pT (ftwE o w a b == 0) (onE o w a == 0) (fthE o w a b == 0) (nonE w a == 0) (w == 64) (w == 32) (a >>> 32 == 0#64) (b >>> 32 == 0#64) (decide (BitVec.ofInt 8 1 ≤ o)) (decide (o ≤ BitVec.ofInt 8 9)) (decide (BitVec.ofInt 8 10 ≤ o)) (decide (o ≤ BitVec.ofInt 8 16)) (decide (BitVec.ofInt 8 17 ≤ o)) (decide (o ≤ BitVec.ofInt 8 22)) = some (.bool true) := by
  have m2 : maW w [a, b] = ((w == 32 || w == 64) && ((w == 64 || a >>> 32 == 0#64) && (w == 64 || b >>> 32 == 0#64))) := by
    unfold maW wOK fiW
    simp only [List.all_cons, List.all_nil, Bool.and_true]
  have e1 : (ftwE o w a b == 0) = (((w == 32 || w == 64) && ((w == 64 || a >>> 32 == 0#64) && (w == 64 || b >>> 32 == 0#64))) && (decide (1#8 ≤ o) && decide (o ≤ 9#8))) := by
    rw [← m2, ← op_two]; unfold ftwE twE; exact if022 _ _
  have f1 : (onE o w a == 0) = (((w == 32 || w == 64) && (w == 64 || a >>> 32 == 0#64)) && (decide (10#8 ≤ o) && decide (o ≤ 16#8))) := by
    rw [← op_one]; unfold onE; exact if02 _
  have g1 : (fthE o w a b == 0) = (((w == 32 || w == 64) && ((w == 64 || a >>> 32 == 0#64) && (w == 64 || b >>> 32 == 0#64))) && (decide (17#8 ≤ o) && decide (o ≤ 22#8))) := by
    rw [← m2, ← op_than]; unfold fthE thE; exact if022 _ _
  have h1 : (nonE w a == 0) = ((w == 32 || w == 64) && (w == 64 || a >>> 32 == 0#64)) := by
    unfold nonE errW; exact if02 _
  rw [e1, f1, g1, h1]
  exact pT_ok _ _ _ _ _ _ _ _ _ _ (w3264 w)
theorem floatsPlaces_s : Snd 12 (trueS fun | [.u8 _, .i .i64 _, .u64 _, .u64 _] => true | _ => false) := by
  refine Sound.of_ptG fun ds d h => ?_
  simp only [Option.some.injEq, Prod.mk.injEq] at h
  obtain ⟨h, rfl⟩ := h
  split at h
  · rename_i o w a b
    cases hw : wOK w
    · refine (execFn_sound (P := Try.prog) (G := G0) (ann := fun _ => []) (TableOK.cons k_two (TableOK.cons k_one (TableOK.cons k_than (TableOK.cons k_none (TableOK.cons s_works TableOK.nil))))) mixed Try.func12 (by kernel_rfl) 50).pt ((nk_all _ _ _ _ _ _ _ _ o a b w hw).trans ?_)
      have m2 : maW w [a, b] = false := by unfold maW; rw [hw]; rfl
      have m1 : inF w a = false := by unfold inF; rw [hw]; rfl
      have e1 : ftwE o w a b = 2 := by unfold ftwE; rw [m2]; rfl
      have f1 : onE o w a = 2 := by unfold onE; rw [m1]; rfl
      have g1 : fthE o w a b = 2 := by unfold fthE; rw [m2]; rfl
      have h1 : nonE w a = 2 := by unfold nonE; rw [m1]; rfl
      rw [e1, f1, g1, h1]; rfl
    · have S := execFn_sound (P := Try.prog) (G := G0) (ann := fun _ => []) (TableOK.cons f_two (TableOK.cons f_one (TableOK.cons f_than (TableOK.cons f_none (TableOK.cons s_works TableOK.nil))))) mixed Try.func12 (by kernel_rfl) 50
      rcases wOK_cases hw with rfl | rfl
      · exact S.pt ((nf12b _ _ _ _ _ _ _ _ o a b).trans (pT_w o 32 a b))
      · exact S.pt ((nf12a _ _ _ _ _ _ _ _ o a b).trans (pT_w o 64 a b))
  · cases h

end Go.L04
namespace Go.Proofs.Ytieeafjcnomakaa.floatsPlaces
open Go Go.L04 Go.Ev Go.RowKit Go.ChangeShapes Go.WideShapes Go.ChangeAt
set_option maxRecDepth 100000 in
theorem lifted (os : Os) (started : os.Started) (H : Type) (enc : TypeId × Value → H) :
    ReturnsInHanded {} Try.checked os 12 .any (Rows.floatsPlacesSpec.pre6 enc Try.prog Try.f12 Rows.floatsPlacesRow.domain false) (Rows.floatsPlacesSpec.post enc Try.prog Try.f12 false true false false) := by
  refine returnsInHanded_of_change (C := Try.checked) own started (by kernel_rfl) Try.func12
    (ChangeSpec.witness6 (enc := enc) (C := Try.checked) false ⟨#[], #[.int .u8 0, .int .i64 0, .int .u64 0, .int .u64 0], []⟩ 8 (by kernel_rfl) (by kernel_rfl) (by kernel_rfl) (by kernel_rfl)) ?_
  intro W base args ds gs before hval0 hW _ _
  have hval : ∀ (j : Nat) t v, Try.f12.params[j]? = some t → args[j]? = some v → Value.okWide Try.prog W .any base t v := hval0
  have hW' := hW
  obtain ⟨p, q, hA0, hV, rfl, hfz, hnd⟩ := hW
  have hA : DataW.TrodAll enc Try.prog W 0 (fun _ => true) true Try.f12.params.toList args.toList ds p := hA0
  rw [Try.params12] at hA hval
  obtain ⟨v0, vs0, d0, ds0, p0, q0, hargs, rfl, rfl, h0, r0⟩ := trodAll_cons hA
  obtain ⟨v1, vs1, d1, ds1, p1, q1, rfl, rfl, rfl, h1, r1⟩ := trodAll_cons r0
  obtain ⟨v2, vs2, d2, ds2, p2, q2, rfl, rfl, rfl, h2, r2⟩ := trodAll_cons r1
  obtain ⟨v3, vs3, d3, ds3, p3, q3, rfl, rfl, rfl, h3, r3⟩ := trodAll_cons r2
  obtain ⟨rfl, rfl, rfl⟩ := trodAll_nil r3
  obtain rfl : args = #[v0, v1, v2, v3] := by cases args; simp_all
  obtain ⟨x0, l0⟩ := arg_u8 (own := none) Try.underlying22 (hval 0 22 v0 rfl rfl) h0
  obtain ⟨n1, l1, w1⟩ := arg_i64 (own := none) Try.underlying3 (hval 1 3 v1 rfl rfl) h1
  obtain ⟨x2, l2⟩ := arg_u64 (own := none) Try.underlying23 (hval 2 23 v2 rfl rfl) h2
  obtain ⟨x3, l3⟩ := arg_u64 (own := none) Try.underlying23 (hval 3 23 v3 rfl rfl) h3
  refine (call_true floatsPlaces_s (ds := [.u8 x0, .i .i64 n1, .u64 x2, .u64 x3]) rfl (by simp only [lie]; exact ⟨_, _, rfl, l0, _, _, rfl, l1, _, _, rfl, l2, _, _, rfl, l3, rfl⟩) (by kernel_rfl)).mono fun e W' ⟨he, hb⟩ => ?_
  subst he
  exact ⟨_, rfl, post_law hW' hb laidOut (by kernel_rfl) rfl (by kernel_rfl) Try.underlying4 rfl⟩
end Go.Proofs.Ytieeafjcnomakaa.floatsPlaces
namespace Go.Proofs.Ytieeafjcnomakaa
open Go

theorem floatsPlaces_holds : Rows.FloatsPlacesSaid :=
  OpenClaim.holds_of_wide 12 Try.f12 rfl rfl rfl rfl rfl rfl rfl ⟨rfl, rfl, rfl, rfl, rfl⟩ rfl rfl rfl rfl rfl (by kernel_rfl) Try.func12 (by kernel_rfl)
    (of_decide_eq_true (by kernel_rfl)) (by unfold Func.isWrapper; first | (rw [if_pos (by decide +kernel)]; kernel_rfl) | (rw [if_neg (by decide +kernel)]; exact ⟨rfl, rfl⟩))
    (fun os started H enc _ => floatsPlaces.lifted os started H enc)
#print axioms floatsPlaces_holds
end Go.Proofs.Ytieeafjcnomakaa

/-
  Part of the proof; what its functions and lemmas say stands in the text.
-/
import Derived.Test.YtnbafdmlfpmfkaaGreatDoorQ23w0
import Derived.Test.YtnbafdmlfpmfkaaGreatDoorQ23w1
import Derived.Test.YtnbafdmlfpmfkaaGreatDoorQ23w2
import Derived.Test.YtnbafdmlfpmfkaaGreatDoorQ23f
import Derived.Test.YtnbafdmlfpmfkaaGreatDoorQ23o
import Derived.Test.YtnbafdmlfpmfkaaGreatDoorEvE
set_option linter.unusedSimpArgs false
set_option linter.unusedVariables false
/-!
Layer 23: the words of the document's texts.
-/
set_option maxRecDepth 100000
set_option maxHeartbeats 0
namespace Go.L23
open Go.Ev Go.Proofs Go.RowKit Go.Wh

def wdsL : List (List UInt8 × List (List UInt8)) := wds0 ++ (wds1 ++ wds2)
noncomputable def wdsS : Ev.Spec := joined fun | [.c (.string s)] => (lookT wdsL s.data.toList).map (fun l => D.sl (l.map str)) | _ => none
theorem t_wdsS : Snd 45 wdsS := by
  refine Sound.join t_X45 fun ds d h => ?_
  split at h
  · rename_i s
    obtain ⟨⟨m⟩⟩ := s
    simp only [Option.map_eq_some_iff] at h
    obtain ⟨b, hb, rfl⟩ := h
    have h2 := AllP.mem (AllP.app (AllP.app wds_at2 wds_at1) wds_at0) (lookT_mem hb)
    dsimp only at h2 ⊢
    exact h2
  · cases h
end Go.L23
/-!
Layer 23: what the document answers for an instruction: its loops.
-/
set_option maxRecDepth 100000
set_option maxHeartbeats 0
namespace Go.L23
open Go.Ev Go.Proofs Go.RowKit Go.Wh

abbrev keep3 : List Nat := [0, 2, 4, 5]
abbrev keep6 : List Nat := [0, 2, 4, 5, 6]
noncomputable def c3 : Code := findLoop (loops (Tryz.f13.body.getD .skip)) 3
noncomputable def c6 : Code := findLoop (loops (Tryz.f13.body.getD .skip)) 6
def toSW : D → SV
  | .u16 x => .u16 x
  | d => toSV d
def zinfo : SV := .agg [.u16 0, .c (.string ⟨⟨[]⟩⟩), .u8 0, .c (.slice none 0 0), .c (.slice none 0 0), .i .i64 0, .bool false]
def frows : List (Option Row) := [some ⟨zinfo, true⟩, some ⟨.agg [.slm 7 2 0 30, .slm 7 3 0 31, .slm 7 4 0 17, .slm 7 5 0 13, .slm 7 6 0 18, .slm 7 7 0 16, .slm 7 8 0 10], false⟩, some ⟨.agg (fam0.map toSW), false⟩, some ⟨.agg (fam1.map toSW), false⟩, some ⟨.agg (fam2.map toSW), false⟩, some ⟨.agg (fam3.map toSW), false⟩, some ⟨.agg (fam4.map toSW), false⟩, some ⟨.agg (fam5.map toSW), false⟩, some ⟨.agg (fam6.map toSW), false⟩]
def trows : List (Option Row) := [some ⟨zinfo, true⟩, none, none, none, some ⟨.agg (fam0.map toSW), false⟩, some ⟨.agg (fam1.map toSW), false⟩, some ⟨.agg (fam2.map toSW), false⟩, some ⟨.agg (fam3.map toSW), false⟩, some ⟨.agg (fam4.map toSW), false⟩, some ⟨.agg (fam5.map toSW), false⟩, some ⟨.agg (fam6.map toSW), false⟩, some ⟨.agg [.slm 7 4 0 30, .slm 7 5 0 31, .slm 7 6 0 17, .slm 7 7 0 13, .slm 7 8 0 18, .slm 7 9 0 16, .slm 7 10 0 10], false⟩, none]
abbrev S3 (i : Nat) (o : BitVec 16) : St := ⟨mkT 64 [(0, .u16 o), (2, .ptr 0 0), (4, .sl 1 0 7), (5, .i .i64 i)], frows⟩
abbrev S6 (k i : Nat) (o : BitVec 16) : St := ⟨mkT 64 [(0, .u16 o), (2, .ptr 0 0), (4, .sl 1 0 7), (5, .i .i64 i), (6, .i .i64 k)], frows⟩
abbrev T3 (o : BitVec 16) : St := ⟨mkT 64 [(0, .u16 o), (2, .ptr 0 0), (3, .i .i64 0), (4, .sl 11 0 7), (5, .i .i64 0), (10, .sl 11 0 7)], trows⟩
abbrev T6 (i : Nat) (o : BitVec 16) : St := ⟨mkT 64 [(0, .u16 o), (2, .ptr 0 0), (4, .sl 1 0 7), (5, .i .i64 i), (6, .i .i64 0), (11, .i .i64 i), (12, .sl 1 0 7), (13, .i .i64 7), (14, .bool true)], frows ++ [none, none, none, none, none]⟩
abbrev E3 (o : BitVec 16) : St := ⟨mkT 64 [(0, .u16 o), (2, .ptr 0 0), (4, .sl 1 0 7), (5, .i .i64 7), (11, .i .i64 7), (12, .sl 1 0 7), (13, .i .i64 7), (14, .bool false)], frows ++ [none, none, none, none]⟩
def lenG (i : Nat) : Nat := [30, 31, 17, 13, 18, 16, 10].getD i 0
abbrev E6 (i : Nat) (o : BitVec 16) : St := ⟨mkT 64 [(0, .u16 o), (2, .ptr 0 0), (4, .sl 1 0 7), (5, .i .i64 i), (6, .i .i64 (lenG i)), (17, .i .i64 (lenG i)), (18, .sl 1 0 7), (19, .i .i64 i), (20, .ptr 1 i), (21, .slm 7 (2 + i) 0 (lenG i)), (22, .i .i64 (lenG i)), (23, .bool false)], frows ++ [none, none, none, none, none, none, none]⟩
/-- The first number of each family, and how many it has. -/
def famT : List (List (Nat × Nat)) := [[(0, 2), (2, 3), (12, 2), (14, 1), (15, 1), (16, 1), (17, 1), (26, 2), (28, 1), (32, 3), (35, 2), (37, 2), (40, 4), (44, 4), (48, 6), (54, 4), (58, 2), (60, 3), (63, 2), (208, 1), (209, 1), (210, 1), (64520, 1), (64521, 1), (64522, 1), (64523, 1), (64524, 1), (64525, 1), (64526, 1), (64527, 3)],
  [(65, 1), (66, 1), (67, 1), (68, 1), (69, 1), (70, 10), (80, 1), (81, 10), (91, 6), (97, 6), (103, 3), (106, 15), (121, 3), (124, 15), (139, 7), (146, 7), (153, 7), (160, 7), (167, 1), (168, 4), (172, 2), (174, 4), (178, 4), (182, 1), (183, 4), (187, 1), (188, 4), (192, 2), (194, 3), (64512, 4), (64516, 4)],
  [(64768, 1), (64769, 6), (64775, 4), (64779, 1), (64780, 1), (64781, 1), (64782, 1), (64783, 6), (64789, 3), (64792, 3), (64795, 2), (64797, 2), (64799, 2), (64801, 2), (64852, 4), (64856, 4), (64860, 2)],
  [(64803, 10), (64813, 10), (64823, 10), (64833, 6), (64839, 6), (64845, 1), (64846, 4), (64850, 1), (64851, 1), (64862, 2), (64982, 6), (65016, 4), (65020, 4)],
  [(64864, 3), (64867, 2), (64869, 2), (64875, 3), (64878, 6), (64886, 4), (64891, 1), (64892, 2), (64894, 2), (64896, 2), (64898, 1), (64899, 2), (64901, 2), (64903, 4), (64907, 3), (64910, 6), (64917, 5), (64923, 5)],
  [(64928, 2), (64931, 2), (64935, 4), (64939, 3), (64942, 1), (64945, 1), (64949, 6), (64956, 4), (64960, 2), (64963, 2), (64967, 4), (64971, 3), (64974, 1), (64977, 1), (64981, 1), (64988, 4)],
  [(64871, 4), (64884, 2), (64890, 1), (64916, 1), (64992, 2), (64995, 1), (64996, 8), (65004, 2), (65007, 1), (65008, 8)]]
abbrev firF (i k : Nat) : BitVec 16 := BitVec.ofNat 16 ((famT.getD i []).getD k (0, 0)).1
abbrev cntF (i k : Nat) : Int := ((famT.getD i []).getD k (0, 0)).2
def out6 (i : Nat) (o : BitVec 16) (k : Nat) : Bool := decide (o < firF i k) || (decide (firF i k + 20#16 < o) || !decide (sOfU .i64 (o - firF i k) < cntF i k))
abbrev where6 (i : Nat) (o : BitVec 16) : Option Nat := (List.range (lenG i)).find? (fun k => !out6 i o k)
def out3 (i : Nat) (o : BitVec 16) : Bool := (where6 i o).isNone
abbrev where3 (o : BitVec 16) : Option Nat := (List.range 7).find? (fun i => !out3 i o)
noncomputable abbrev tabA : Table := tabOf [(45, wdsS)]
noncomputable abbrev Xea : Ev.Spec := ex [(45, wdsS)] (fun _ => []) Tryz.f96
theorem t_Xea : Snd 96 Xea := execFn_sound (ann := fun _ => []) (TableOK.cons t_wdsS TableOK.nil) mixed Tryz.func96 (by kernel_rfl) 50
noncomputable abbrev Xin : Ev.Spec := ex [(96, Xea), (97, X97), (98, X98)] ann46 Tryz.f46
theorem t_Xin : Snd 46 Xin := execFn_sound (ann := ann46) (TableOK.cons t_Xea (TableOK.cons t_X97 (TableOK.cons t_X98 TableOK.nil))) mixed Tryz.func46 (by kernel_rfl) 50
/-- A row of the table, of whose two lists of types one alone is told. -/
def xsD : D → D
  | .sl8 _ => .xs
  | .c (.slice none 0 0) => .xs
  | d => d
def weakI : D → D
  | .agg [a, b, c, f, .c (.slice none 0 0), g, h] => .agg [a, b, c, f, .c (.slice none 0 0), g, h]
  | .agg [a, b, c, f, t, g, h] => .agg [a, b, c, xsD f, t, g, h]
  | d => d
theorem xsD_lies {own : Option Nat} {w : World} {d : D} {v : Value} (h : lies own w d v) : lies own w (xsD d) v := by
  unfold xsD
  split
  · simp only [lies] at h ⊢; obtain ⟨b, o, cap, rfl, _⟩ := h; exact ⟨_, _, _, rfl⟩
  · simp only [lies] at h ⊢; subst h; exact ⟨_, _, _, rfl⟩
  · exact h
theorem weakI_lies {own : Option Nat} {w : World} {d : D} {v : Value} (h : lies own w d v) : lies own w (weakI d) v := by
  unfold weakI
  split
  · exact h
  · simp only [lies, lie] at h ⊢
    obtain ⟨cs, e, v1, t1, rfl, h1, v2, t2, rfl, h2, v3, t3, rfl, h3, v4, t4, rfl, h4, rest⟩ := h
    exact ⟨_, e, v1, _, rfl, h1, v2, _, rfl, h2, v3, _, rfl, h3, v4, t4, rfl, xsD_lies h4, rest⟩
  · exact h
theorem callGo_mono {P : Program} {f : FuncId} {args : List Value} {w : World} {d d' : D} (h : CallGo P f args w d) (hd : ∀ (w' : World) (v : Value), lies (some w.heap.size) w' d v → lies (some w.heap.size) w' d' v) : CallGo P f args w d' := by
  rcases h with ⟨v, w', h1, h2, h3⟩ | ⟨h1, h2⟩
  · exact .inl ⟨v, w', h1, h2, hd w' v h3⟩
  · exact .inr ⟨h1, Calls.mono h2 fun e w' ⟨v, he, hb, hl⟩ => ⟨v, he, hb, hd w' v hl⟩⟩
noncomputable def XinW : Ev.Spec := fun ds K => Xin ds (fun d => K (weakI d))
theorem t_XinW : Snd 46 XinW := fun ds K r h => by
  obtain ⟨d, h1, h2⟩ := t_Xin ds _ r h
  exact ⟨weakI d, h1, fun w args hG hl => callGo_mono (h2 w args hG hl) fun w' v hv => weakI_lies hv⟩
/-- What is known of an instruction, of whose lists of types one alone is told. -/
def wkF (n : Nat) : D := match lookO insAll n with
  | some i => .tup [weakI (infoD i), .i .i64 0]
  | none => .tup [noInfo, .i .i64 11]
noncomputable abbrev tabB : Table := tabOf [(45, wdsS), (46, XinW)]
theorem ok_tabA : TableOK Tryz.prog G0 tabA := TableOK.cons t_wdsS TableOK.nil
theorem ok_tabB : TableOK Tryz.prog G0 tabB := TableOK.cons t_wdsS (TableOK.cons t_XinW TableOK.nil)
theorem pick6 {A X : Option D} {a b c : Bool} (h : (a || (b || !c)) = true) : (if a = false then (if b = true then A else if c = true then X else A) else A) = A := by
  cases a <;> cases b <;> cases c <;> first | rfl | cases h
theorem S3_inj {a b : BitVec 16} (h : S3 0 a = S3 0 b) : a = b := by
  have h1 : (S3 0 a).tmps.getD 0 .any = (S3 0 b).tmps.getD 0 .any := by rw [h]
  have e : ∀ n : BitVec 16, (S3 0 n).tmps.getD 0 .any = .u16 n := fun n => rfl
  rw [e, e] at h1
  cases h1; rfl
theorem S6_inj {i j : Nat} {a b : BitVec 16} (h : S6 0 i a = S6 0 j b) : i = j ∧ a = b := by
  have h1 : (S6 0 i a).tmps.getD 0 .any = (S6 0 j b).tmps.getD 0 .any := by rw [h]
  have h2 : (S6 0 i a).tmps.getD 5 .any = (S6 0 j b).tmps.getD 5 .any := by rw [h]
  have e : ∀ (i : Nat) (n : BitVec 16), (S6 0 i n).tmps.getD 0 .any = .u16 n := fun i n => rfl
  have f : ∀ (i : Nat) (n : BitVec 16), (S6 0 i n).tmps.getD 5 .any = .i .i64 i := fun i n => rfl
  rw [e, e] at h1
  rw [f, f] at h2
  cases h1
  have h3 := SV.i.inj h2
  exact ⟨by have := h3.2; omega, rfl⟩
noncomputable abbrev exA (l : Table) (c : Code) (s : St) (K : Ex → St → Option D) : Option D := exec Tryz.prog G0 l ann13 (fun _ => none) 50 c s K
noncomputable abbrev exB (F : LoopF) (s : St) (K : Ex → St → Option D) : Option D := exec Tryz.prog G0 (tabOf []) ann13 (lsOf [(6, F)]) 50 c3 s K
noncomputable def KF6 (i : Nat) (o : BitVec 16) (K : Ex → St → Option D) : Ex → St → Option D := fun e st => exB (fun _ K => K e st) (S3 i o) K
noncomputable def KF13 (o : BitVec 16) : Ex → St → Option D := fun e st => execFnL Tryz.prog G0 (tabOf [(44, famS)]) ann13 (lsOf [(3, fun _ K => K e st)]) Tryz.f13 50 [.u16 o] some
abbrev Sk (i : Nat) : Nat → Prop := fun k => ∀ (o : BitVec 16) (N : St → Option D) (E : Nat → St → Option D) (R : St → Option D), exA tabA c6 (S6 k i o) (splitK keep6 N E R) =
  if decide (o < firF i k) = false then if decide (firF i k + 20#16 < o) = true then N (S6 (k + 1) i o) else if decide (sOfU .i64 (o - firF i k) < cntF i k) = true then
    (if 0 ≤ sOfU .i64 (o - firF i k) ∧ sOfU .i64 (o - firF i k) < cntF i k then if 0 + (sOfU .i64 (o - firF i k)).toNat * 1 < (cntF i k).toNat then none else none else none) else N (S6 (k + 1) i o) else N (S6 (k + 1) i o)
end Go.L23

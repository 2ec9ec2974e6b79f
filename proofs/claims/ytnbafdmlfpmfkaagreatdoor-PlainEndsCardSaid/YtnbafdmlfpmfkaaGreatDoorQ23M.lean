/-
  Part of the proof; what its functions and lemmas say stands in the text.
-/
import Derived.Test.YtnbafdmlfpmfkaaGreatDoorQ23h
import Derived.Test.YtnbafdmlfpmfkaaGreatDoorQ23lA
import Derived.Test.YtnbafdmlfpmfkaaGreatDoorQ23lB
set_option linter.unusedSimpArgs false
set_option linter.unusedVariables false
set_option maxRecDepth 100000
set_option maxHeartbeats 0
namespace Go.L23
open Go.Ev Go.Proofs Go.RowKit Go.Wh
def fieldL : List (List UInt8 × List (List UInt8)) := field0 ++ (field1 ++ (field2 ++ field3))
noncomputable def fieldS : Ev.Spec := joined fun | [.c (.string s)] => (lookT fieldL s.data.toList).map (fun l => D.sl (l.map str)) | _ => none
theorem t_fieldS : Snd 305 fieldS := by
 refine Sound.join t_X305 fun ds d h => ?_
 split at h
 ·rename_i s
  obtain ⟨⟨m⟩⟩ := s
  simp only [Option.map_eq_some_iff] at h
  obtain ⟨b, hb, rfl⟩ := h
  have h2 := AllP.mem (AllP.app (AllP.app (AllP.app field_at3 field_at2) field_at1) field_at0) (lookT_mem hb)
  dsimp only at h2 ⊢
  exact h2
 ·cases h
noncomputable abbrev X259f : Ev.Spec := ex [(305, fieldS)] (fun _ => []) Tryz.f259
theorem t_X259f : Snd 259 X259f := execFn_sound (ann := fun _ => []) (TableOK.cons t_fieldS TableOK.nil) mixed Tryz.func259 (by kernel_rfl) 50
end Go.L23
set_option maxRecDepth 100000
set_option maxHeartbeats 0
namespace Go.L23
open Go.Ev Go.Proofs Go.RowKit Go.Wh
def cutL : List (List UInt8 × List UInt8 × List UInt8) := [([58], [], []), ([105, 58, 105], [105], [105]), ([105, 58, 108], [105], [108]), ([105, 58, 102], [105], [102]), ([105, 58, 100], [105], [100]), ([105, 105, 58], [105, 105], []), ([105, 108, 58], [105, 108], []), ([105, 102, 58], [105, 102], []), ([105, 100, 58], [105, 100], []), ([58, 105], [], [105]), ([58, 108], [], [108]), ([58, 102], [], [102]), ([58, 100], [], [100]), ([105, 105, 58, 105], [105, 105], [105]), ([108, 58, 105], [108], [105]), ([108, 108, 58, 105], [108, 108], [105]), ([102, 102, 58, 105], [102, 102], [105]), ([100, 100, 58, 105], [100, 100], [105]), ([108, 58, 108], [108], [108]), ([108, 108, 58, 108], [108, 108], [108]), ([102, 58, 102], [102], [102]), ([102, 102, 58, 102], [102, 102], [102]), ([100, 58, 100], [100], [100]), ([100, 100, 58, 100], [100, 100], [100]), ([102, 58, 105], [102], [105]), ([100, 58, 105], [100], [105]), ([102, 58, 108], [102], [108]), ([100, 58, 108], [100], [108]), ([108, 58, 102], [108], [102]), ([100, 58, 102], [100], [102]), ([108, 58, 100], [108], [100]), ([102, 58, 100], [102], [100]), ([105, 105, 105, 58], [105, 105, 105], []), ([105, 58, 118], [105], [118]), ([105, 118, 58], [105, 118], []), ([58, 118], [], [118]), ([118, 118, 58, 118], [118, 118], [118]), ([108, 58, 118], [108], [118]), ([102, 58, 118], [102], [118]), ([100, 58, 118], [100], [118]), ([118, 58, 105], [118], [105]), ([118, 105, 58, 118], [118, 105], [118]), ([118, 58, 108], [118], [108]), ([118, 108, 58, 118], [118, 108], [118]), ([118, 58, 102], [118], [102]), ([118, 102, 58, 118], [118, 102], [118]), ([118, 58, 100], [118], [100]), ([118, 100, 58, 118], [118, 100], [118]), ([118, 58, 118], [118], [118]), ([118, 118, 118, 58, 118], [118, 118, 118], [118]), ([105, 118, 58, 118], [105, 118], [118])]
noncomputable def cutS : Ev.Spec := joined fun | [.c (.string s), .c (.string t)] => (if (t.data.toList == [58]) = true then (lookT cutL s.data.toList).map (fun p => D.tup [str p.1, str p.2, .bool true]) else none) | _ => none
theorem cut_at : AllP (fun p : List UInt8 × List UInt8 × List UInt8 => X70 [str p.1, str [58]] some = some (.tup [str p.2.1, str p.2.2, .bool true])) cutL := by
 refine AllP.cons ?_ (AllP.cons ?_ (AllP.cons ?_ (AllP.cons ?_ (AllP.cons ?_ (AllP.cons ?_ (AllP.cons ?_ (AllP.cons ?_ (AllP.cons ?_ (AllP.cons ?_ (AllP.cons ?_ (AllP.cons ?_ (AllP.cons ?_ (AllP.cons ?_ (AllP.cons ?_ (AllP.cons ?_ (AllP.cons ?_ (AllP.cons ?_ (AllP.cons ?_ (AllP.cons ?_ (AllP.cons ?_ (AllP.cons ?_ (AllP.cons ?_ (AllP.cons ?_ (AllP.cons ?_ (AllP.cons ?_ (AllP.cons ?_ (AllP.cons ?_ (AllP.cons ?_ (AllP.cons ?_ (AllP.cons ?_ (AllP.cons ?_ (AllP.cons ?_ (AllP.cons ?_ (AllP.cons ?_ (AllP.cons ?_ (AllP.cons ?_ (AllP.cons ?_ (AllP.cons ?_ (AllP.cons ?_ (AllP.cons ?_ (AllP.cons ?_ (AllP.cons ?_ (AllP.cons ?_ (AllP.cons ?_ (AllP.cons ?_ (AllP.cons ?_ (AllP.cons ?_ (AllP.cons ?_ (AllP.cons ?_ (AllP.cons ?_ (AllP.nil))))))))))))))))))))))))))))))))))))))))))))))))))) <;> kernel_rfl
theorem t_cutS : Snd 70 cutS := by
 refine Sound.join t_X70 fun ds d h => ?_
 split at h
 ·rename_i s t
  split at h
  ·rename_i ht
   rw [eq_text ht]
   obtain ⟨⟨m⟩⟩ := s
   simp only [Option.map_eq_some_iff] at h
   obtain ⟨b, hb, rfl⟩ := h
   have h2 := cut_at.mem (lookT_mem hb)
   dsimp only at h2 ⊢
   exact h2
  ·cases h
 ·cases h
def typL : List (List UInt8 × D) := [([], .c (.slice none 0 0)), ([105], .sl8 [127#8]), ([108], .sl8 [126#8]), ([102], .sl8 [125#8]), ([100], .sl8 [124#8]), ([105, 105], .sl8 [127#8, 127#8]), ([105, 108], .sl8 [127#8, 126#8]), ([105, 102], .sl8 [127#8, 125#8]), ([105, 100], .sl8 [127#8, 124#8]), ([108, 108], .sl8 [126#8, 126#8]), ([102, 102], .sl8 [125#8, 125#8]), ([100, 100], .sl8 [124#8, 124#8]), ([105, 105, 105], .sl8 [127#8, 127#8, 127#8]), ([118], .sl8 [123#8]), ([105, 118], .sl8 [127#8, 123#8]), ([118, 118], .sl8 [123#8, 123#8]), ([118, 105], .sl8 [123#8, 127#8]), ([118, 108], .sl8 [123#8, 126#8]), ([118, 102], .sl8 [123#8, 125#8]), ([118, 100], .sl8 [123#8, 124#8]), ([118, 118, 118], .sl8 [123#8, 123#8, 123#8])]
noncomputable def typS : Ev.Spec := joined fun | [.c (.string s)] => lookT typL s.data.toList | _ => none
theorem typ_at : AllP (fun p : List UInt8 × D => X71 [str p.1] some = some p.2) typL := by
 refine AllP.cons ?_ (AllP.cons ?_ (AllP.cons ?_ (AllP.cons ?_ (AllP.cons ?_ (AllP.cons ?_ (AllP.cons ?_ (AllP.cons ?_ (AllP.cons ?_ (AllP.cons ?_ (AllP.cons ?_ (AllP.cons ?_ (AllP.cons ?_ (AllP.cons ?_ (AllP.cons ?_ (AllP.cons ?_ (AllP.cons ?_ (AllP.cons ?_ (AllP.cons ?_ (AllP.cons ?_ (AllP.cons ?_ (AllP.nil))))))))))))))))))))) <;> kernel_rfl
theorem t_typS : Snd 71 typS := by
 refine Sound.join t_X71 fun ds d h => ?_
 split at h
 ·rename_i s
  obtain ⟨⟨m⟩⟩ := s
  have h2 := typ_at.mem (lookT_mem h)
  dsimp only at h2 ⊢
  exact h2
 ·cases h
structure Ins where
 op : Nat
 name : List UInt8
 types : List UInt8
 imm : Nat
 bits : Int
 plain : Bool
def rowD (i : Ins) : D := .tup [.agg [str i.name, str i.types, .u8 (BitVec.ofNat 8 i.imm), .i .i64 i.bits, .bool i.plain], .bool true]
def lookO : List Ins → Nat → Option Ins
 | [], _ => none
 | i :: l, n => if (n == i.op) = true then some i else lookO l n
theorem lookO_mem : ∀ {l : List Ins} {n : Nat} {i : Ins}, lookO l n = some i → i ∈ l ∧ i.op = n
 | k :: l, n, b, h => by
  simp only [lookO] at h
  split at h
  ·rename_i e
   cases h
   exact ⟨List.mem_cons_self, (by simpa using e : n = k.op).symm⟩
  ·exact ⟨List.mem_cons_of_mem _ (lookO_mem h).1, (lookO_mem h).2⟩
def toSV : D → SV
 | .i k n => .i k n
 | .u8 x => .u8 x
 | .bool b => .bool b
 | .c v => .c v
 | _ => .any
def cellsOf : D → List SV
 | .slm _ _ l => l.map toSV
 | _ => []
def beqD : D → D → Bool
 | .i .i64 n, .i .i64 m => n == m
 | .u8 x, .u8 y => x == y
 | .bool a, .bool b => a == b
 | .c (.string s), .c (.string t) => s.data.toList == t.data.toList
 | _, _ => false
theorem beqD_eq : ∀ {a b : D}, beqD a b = true → a = b := by
 intro a b h
 unfold beqD at h
 split at h
 ·have := eq_of_beq h; subst this; rfl
 ·have := eq_of_beq h; subst this; rfl
 ·have := eq_of_beq h; subst this; rfl
 ·rename_i s t
  obtain ⟨⟨s⟩⟩ := s
  obtain ⟨⟨t⟩⟩ := t
  have : s = t := by simpa using h
  rw [this]
 ·cases h
def beqL : List D → List D → Bool
 | [], [] => true
 | a :: l, b :: m => beqD a b && beqL l m
 | _, _ => false
theorem beqL_eq : ∀ {l m : List D}, beqL l m = true → l = m
 | [], [], _ => rfl
 | a :: l, b :: m, h => by
  simp only [beqL, Bool.and_eq_true] at h
  rw [beqD_eq h.1, beqL_eq h.2]
def isTab : D → D → Bool
 | .slm 7 n l, .slm 7 m k => n == m && beqL l k
 | _, _ => false
theorem isTab_eq {a b : D} (h : isTab a b = true) : a = b := by
 unfold isTab at h
 split at h
 ·simp only [Bool.and_eq_true] at h
  have := eq_of_beq h.1; subst this
  rw [beqL_eq h.2]
 ·cases h
abbrev keep177 : List Nat := [1, 4, 12, 13, 14]
noncomputable def c177 : Code := findLoop (loops (Tryz.f177.body.getD .skip)) 2
def zrow : SV := .agg [.c (.string ⟨⟨[]⟩⟩), .c (.string ⟨⟨[]⟩⟩), .u8 0, .i .i64 0, .bool false]
def zfind : D := .tup [.agg [str [], str [], .u8 0#8, .i .i64 0, .bool false], .bool false]
abbrev Sf (g : List SV) (len : Nat) (k : Nat) (n : Int) : St := ⟨mkT 71 [(1, .i .i64 n), (4, .ptr 0 0), (12, .slm 7 1 0 len), (13, .i .i64 len), (14, .i .i64 k)], [some ⟨zrow, true⟩, some ⟨.agg g, false⟩]⟩
abbrev Tf (g : List SV) (len : Nat) (n : Int) : St := ⟨mkT 71 [(0, .slm 7 0 0 len), (1, .i .i64 n), (4, .ptr 1 0), (5, .bool false), (12, .slm 7 0 0 len), (13, .i .i64 len), (14, .i .i64 0)], [some ⟨.agg g, false⟩, some ⟨zrow, true⟩, none, none, none, none]⟩
abbrev Ef (g : List SV) (len : Nat) (n : Int) : St := ⟨mkT 71 [(1, .i .i64 n), (4, .ptr 0 0), (12, .slm 7 1 0 len), (13, .i .i64 len), (14, .i .i64 len), (15, .bool false)], [some ⟨zrow, true⟩, some ⟨.agg g, false⟩, none]⟩
noncomputable def KFf (g : D) (n : Int) : Ex → St → Option D := fun e st => execFnL Tryz.prog G0 (tabOf []) ann177 (lsOf [(2, fun _ K => K e st)]) Tryz.f177 50 [g, .i .i64 n] some
noncomputable abbrev tab1 : Table := tabOf [(260, countC)]
noncomputable abbrev tab2 : Table := tabOf [(259, X259f), (260, countC), (261, splitS)]
theorem ok_tab1 : TableOK Tryz.prog G0 tab1 := TableOK.cons t_countC TableOK.nil
theorem ok_tab2 : TableOK Tryz.prog G0 tab2 := TableOK.cons t_X259f (TableOK.cons t_countC (TableOK.cons t_splitS TableOK.nil))
theorem skip_pick {A : Option D} {b c : Bool} (h : (b || c) = true) : (if b = false then (if c = true then A else none) else A) = A := by
 cases b
 ·cases c
  ·cases h
  ·rfl
 ·rfl
theorem Sf_inj {g : List SV} {len : Nat} {a b : Int} (h : Sf g len 0 a = Sf g len 0 b) : a = b := by
 have h1 : (Sf g len 0 a).tmps.getD 1 .any = (Sf g len 0 b).tmps.getD 1 .any := by rw [h]
 have e : ∀ n : Int, (Sf g len 0 n).tmps.getD 1 .any = .i .i64 n := fun n => rfl
 rw [e, e] at h1
 cases h1; rfl
abbrev fstF (tab : List (Int × Int)) (k : Nat) : Int := (tab.getD k (0, 0)).1
abbrev sndF (tab : List (Int × Int)) (k : Nat) : Int := (tab.getD k (0, 0)).2
def outF (tab : List (Int × Int)) (k : Nat) (n : Int) : Bool := decide (n < fstF tab k) || decide (sndF tab k < IntKind.i64.wrap (n - fstF tab k))
abbrev whereF (len : Nat) (tab : List (Int × Int)) (n : Int) : Option Nat := (List.range len).find? (fun k => !outF tab k n)
def resF (len : Nat) (tab : List (Int × Int)) (page : Nat) (rows : List Ins) (n : Int) : Option D := match whereF len tab n with
 | none => some zfind
 | some _ => if decide (0 ≤ n) = true then (lookO rows (page + n.toNat)).map rowD else none
end Go.L23

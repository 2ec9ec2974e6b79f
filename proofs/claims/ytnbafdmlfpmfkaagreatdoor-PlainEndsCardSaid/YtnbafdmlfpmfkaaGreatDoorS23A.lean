/-
  Part of the proof; what its functions and lemmas say stands in the text.
-/
import Derived.Test.YtnbafdmlfpmfkaaGreatDoorEvE
import Derived.Test.YtnbafdmlfpmfkaaGreatDoorWh1
import Derived.Lib.Bytealg
import Derived.Test.YtnbafdmlfpmfkaaGreatDoorProg
set_option linter.unusedSimpArgs false
set_option linter.unusedVariables false
namespace Go.L23
open Go.Ev Go.Proofs Go.RowKit Go.Wh
def G0 : List (Nat × SV) := [(0, .a8 [1, 2, 3, 4, 5, 6, 8, 9]), (1, .a8 [32, 33, 35, 34, 37, 36, 39, 38, 41, 40]), (2, .a8 [17, 18, 19, 20, 21, 22]), (3, .a8 [10, 11, 13, 14, 15, 16, 12]), (4, .a8 [1, 2, 3, 4, 5, 6, 7]), (5, .a8 [26, 27, 28]), (6, .a8 [1, 2, 3, 6, 4, 7, 5, 8, 9, 10, 11, 13, 12, 14, 15]), (7, .ai .i64 [8, 16, 32, 64]), (9, .ai .u8 [0, 1, 56, 2, 57, 49, 28, 3, 61, 58, 42, 50, 38, 29, 17, 4, 62, 47, 59, 36, 45, 43, 51, 22, 53, 39, 33, 30, 24, 18, 12, 5, 63, 55, 48, 27, 60, 41, 37, 16, 46, 35, 44, 21, 52, 32, 23, 11, 54, 26, 40, 15, 34, 20, 31, 10, 25, 14, 19, 9, 13, 8, 7, 6]), (11, .a8 [0, 0, 0, 0, 0, 0, 0, 0, 0, 1, 1, 1, 1, 1, 0, 0, 0, 0, 0, 0, 0, 0, 0, 0, 0, 0, 0, 0, 0, 0, 0, 0, 1, 0, 0, 0, 0, 0, 0, 0, 0, 0, 0, 0, 0, 0, 0, 0, 0, 0, 0, 0, 0, 0, 0, 0, 0, 0, 0, 0, 0, 0, 0, 0, 0, 0, 0, 0, 0, 0, 0, 0, 0, 0, 0, 0, 0, 0, 0, 0, 0, 0, 0, 0, 0, 0, 0, 0, 0, 0, 0, 0, 0, 0, 0, 0, 0, 0, 0, 0, 0, 0, 0, 0, 0, 0, 0, 0, 0, 0, 0, 0, 0, 0, 0, 0, 0, 0, 0, 0, 0, 0, 0, 0, 0, 0, 0, 0, 0, 0, 0, 0, 0, 0, 0, 0, 0, 0, 0, 0, 0, 0, 0, 0, 0, 0, 0, 0, 0, 0, 0, 0, 0, 0, 0, 0, 0, 0, 0, 0, 0, 0, 0, 0, 0, 0, 0, 0, 0, 0, 0, 0, 0, 0, 0, 0, 0, 0, 0, 0, 0, 0, 0, 0, 0, 0, 0, 0, 0, 0, 0, 0, 0, 0, 0, 0, 0, 0, 0, 0, 0, 0, 0, 0, 0, 0, 0, 0, 0, 0, 0, 0, 0, 0, 0, 0, 0, 0, 0, 0, 0, 0, 0, 0, 0, 0, 0, 0, 0, 0, 0, 0, 0, 0, 0, 0, 0, 0, 0, 0, 0, 0, 0, 0, 0, 0, 0, 0, 0, 0, 0, 0, 0, 0, 0, 0])]
theorem mixed : Tryz.prog.follows .mixedOrders = true := by kernel_rfl
noncomputable abbrev ex (l : List (Nat × Ev.Spec)) (ann : Nat → List Nat) (f : Func) : Ev.Spec := execFn Tryz.prog G0 (tabOf l) ann f 50
abbrev Snd (f : Nat) (s : Ev.Spec) : Prop := Sound Tryz.prog G0 f s
abbrev vec (x y : BitVec 64) : D := .agg [.u64 x, .u64 y]
abbrev str (l : List UInt8) : D := .c (.string ⟨⟨l⟩⟩)
noncomputable def countS : Ev.Spec := joined fun | [.c (.string s), .u8 c] => some (.i .i64 (s.data.toList.count ((c.toNat : Int).toNat.toUInt8))) | _ => none
theorem t_count : Snd 307 countS := by
 have x : ExtF Tryz.prog 307 Extern.BytealgCount.count := ⟨⟨Tryz.f307, Tryz.func307, by kernel_rfl, by kernel_rfl, by kernel_rfl, by kernel_rfl⟩⟩
 refine Sound.of_pt fun ds d hd => ?_
 split at hd
 ·rename_i s c
  cases hd
  refine x.pt fun w args hl => ?_
  simp only [lie, lies] at hl
  obtain ⟨v, t, rfl, rfl, v2, t2, rfl, rfl, rfl⟩ := hl
  exact ⟨_, w, Lib.run_countString s _ w, Below.refl _ _, by simp only [lies]; rfl⟩
 ·cases hd
noncomputable def indexS : Ev.Spec := joined fun | [.c (.string s), .u8 c] => some (.i .i64 (Lib.indexByte s.data.toList ((c.toNat : Int).toNat.toUInt8))) | _ => none
theorem t_index : Snd 329 indexS := by
 have x : ExtF Tryz.prog 329 Extern.BytealgIndexByte.indexByte := ⟨⟨Tryz.f329, Tryz.func329, by kernel_rfl, by kernel_rfl, by kernel_rfl, by kernel_rfl⟩⟩
 refine Sound.of_pt fun ds d hd => ?_
 split at hd
 ·rename_i s c
  cases hd
  refine x.pt fun w args hl => ?_
  simp only [lie, lies] at hl
  obtain ⟨v, t, rfl, rfl, v2, t2, rfl, rfl, rfl⟩ := hl
  exact ⟨_, w, Lib.run_indexByteString s _ w, Below.refl _ _, by simp only [lies]⟩
 ·cases hd
end Go.L23
namespace Go.L23
open Go.Ev Go.Proofs Go.RowKit Go.Wh
noncomputable def X22 : Ev.Spec := execFn Tryz.prog G0 (tabOf []) (fun _ => []) Tryz.f22 400
theorem t_X22 : Snd 22 X22 := execFn_sound (ann := fun _ => []) TableOK.nil mixed Tryz.func22 (by kernel_rfl) 400
end Go.L23
namespace Go.L23
open Go.Ev Go.Proofs Go.RowKit Go.Wh
def ann305 : Nat → List Nat := fun | 27 => [0, 9, 10, 12] | 21 => [0, 9, 10, 11, 12] | 18 => [0, 9, 10, 12] | 5 => [0, 3, 4, 5, 6] | _ => []
noncomputable def X305 : Ev.Spec := execFn Tryz.prog G0 (tabOf []) ann305 Tryz.f305 400
theorem t_X305 : Snd 305 X305 := execFn_sound (ann := ann305) TableOK.nil mixed Tryz.func305 (by kernel_rfl) 400
noncomputable def X259 : Ev.Spec := execFn Tryz.prog G0 (tabOf [(305, X305)]) (fun _ => []) Tryz.f259 400
theorem t_X259 : Snd 259 X259 := execFn_sound (ann := fun _ => []) (TableOK.cons t_X305 TableOK.nil) mixed Tryz.func259 (by kernel_rfl) 400
noncomputable def X309 : Ev.Spec := execFn Tryz.prog G0 (tabOf [(329, indexS)]) (fun _ => []) Tryz.f309 400
theorem t_X309 : Snd 309 X309 := execFn_sound (ann := fun _ => []) (TableOK.cons t_index TableOK.nil) mixed Tryz.func309 (by kernel_rfl) 400
def ann262 : Nat → List Nat := fun | 15 => [0, 1, 5, 6, 7, 8, 9, 10] | _ => []
noncomputable def X262 : Ev.Spec := execFn Tryz.prog G0 (tabOf [(309, X309)]) ann262 Tryz.f262 400
theorem t_X262 : Snd 262 X262 := execFn_sound (ann := ann262) (TableOK.cons t_X309 TableOK.nil) mixed Tryz.func262 (by kernel_rfl) 400
noncomputable def X263 : Ev.Spec := execFn Tryz.prog G0 (tabOf [(262, X262)]) (fun _ => []) Tryz.f263 400
theorem t_X263 : Snd 263 X263 := execFn_sound (ann := fun _ => []) (TableOK.cons t_X262 TableOK.nil) mixed Tryz.func263 (by kernel_rfl) 400
def ann260 : Nat → List Nat := fun | 6 => [0, 1, 5] | _ => []
noncomputable def X260 : Ev.Spec := execFn Tryz.prog G0 (tabOf [(263, X263), (307, countS)]) ann260 Tryz.f260 400
theorem t_X260 : Snd 260 X260 := execFn_sound (ann := ann260) (TableOK.cons t_X263 (TableOK.cons t_count TableOK.nil)) mixed Tryz.func260 (by kernel_rfl) 400
def ann308 : Nat → List Nat := fun | 11 => [0, 1, 2, 3, 9, 10] | _ => []
noncomputable def X308 : Ev.Spec := execFn Tryz.prog G0 (tabOf [(260, X260), (263, X263)]) ann308 Tryz.f308 400
theorem t_X308 : Snd 308 X308 := execFn_sound (ann := ann308) (TableOK.cons t_X260 (TableOK.cons t_X263 TableOK.nil)) mixed Tryz.func308 (by kernel_rfl) 400
noncomputable def X261 : Ev.Spec := execFn Tryz.prog G0 (tabOf [(308, X308)]) (fun _ => []) Tryz.f261 400
theorem t_X261 : Snd 261 X261 := execFn_sound (ann := fun _ => []) (TableOK.cons t_X308 TableOK.nil) mixed Tryz.func261 (by kernel_rfl) 400
def ann177 : Nat → List Nat := fun | 8 => [4, 7, 8, 9, 40] | 2 => [1, 4, 12, 13, 14] | _ => []
noncomputable def X177 : Ev.Spec := execFn Tryz.prog G0 (tabOf [(259, X259), (260, X260), (261, X261)]) ann177 Tryz.f177 400
theorem t_X177 : Snd 177 X177 := execFn_sound (ann := ann177) (TableOK.cons t_X259 (TableOK.cons t_X260 (TableOK.cons t_X261 TableOK.nil))) mixed Tryz.func177 (by kernel_rfl) 400
noncomputable def X179 : Ev.Spec := execFn Tryz.prog G0 (tabOf []) (fun _ => []) Tryz.f179 400
theorem t_X179 : Snd 179 X179 := execFn_sound (ann := fun _ => []) TableOK.nil mixed Tryz.func179 (by kernel_rfl) 400
noncomputable def X69 : Ev.Spec := execFn Tryz.prog G0 (tabOf [(177, X177), (179, X179)]) (fun _ => []) Tryz.f69 400
theorem t_X69 : Snd 69 X69 := execFn_sound (ann := fun _ => []) (TableOK.cons t_X177 (TableOK.cons t_X179 TableOK.nil)) mixed Tryz.func69 (by kernel_rfl) 400
noncomputable def X181 : Ev.Spec := execFn Tryz.prog G0 (tabOf [(262, X262)]) (fun _ => []) Tryz.f181 400
theorem t_X181 : Snd 181 X181 := execFn_sound (ann := fun _ => []) (TableOK.cons t_X262 TableOK.nil) mixed Tryz.func181 (by kernel_rfl) 400
noncomputable def X70 : Ev.Spec := execFn Tryz.prog G0 (tabOf [(181, X181)]) (fun _ => []) Tryz.f70 400
theorem t_X70 : Snd 70 X70 := execFn_sound (ann := fun _ => []) (TableOK.cons t_X181 TableOK.nil) mixed Tryz.func70 (by kernel_rfl) 400
def ann71 : Nat → List Nat := fun | 3 => [3, 7] | _ => []
noncomputable def X71 : Ev.Spec := execFn Tryz.prog G0 (tabOf []) ann71 Tryz.f71 400
theorem t_X71 : Snd 71 X71 := execFn_sound (ann := ann71) TableOK.nil mixed Tryz.func71 (by kernel_rfl) 400
noncomputable def X18 : Ev.Spec := execFn Tryz.prog G0 (tabOf [(69, X69), (70, X70), (71, X71)]) (fun _ => []) Tryz.f18 400
theorem t_X18 : Snd 18 X18 := execFn_sound (ann := fun _ => []) (TableOK.cons t_X69 (TableOK.cons t_X70 (TableOK.cons t_X71 TableOK.nil))) mixed Tryz.func18 (by kernel_rfl) 400
noncomputable def X48 : Ev.Spec := execFn Tryz.prog G0 (tabOf []) (fun _ => []) Tryz.f48 400
theorem t_X48 : Snd 48 X48 := execFn_sound (ann := fun _ => []) TableOK.nil mixed Tryz.func48 (by kernel_rfl) 400
noncomputable def X14 : Ev.Spec := execFn Tryz.prog G0 (tabOf []) (fun _ => []) Tryz.f14 400
theorem t_X14 : Snd 14 X14 := execFn_sound (ann := fun _ => []) TableOK.nil mixed Tryz.func14 (by kernel_rfl) 400
def ann49 : Nat → List Nat := fun | 4 => [1, 12, 13, 14] | _ => []
noncomputable def X49 : Ev.Spec := execFn Tryz.prog G0 (tabOf [(14, X14)]) ann49 Tryz.f49 400
theorem t_X49 : Snd 49 X49 := execFn_sound (ann := ann49) (TableOK.cons t_X14 TableOK.nil) mixed Tryz.func49 (by kernel_rfl) 400
noncomputable def X52 : Ev.Spec := execFn Tryz.prog G0 (tabOf []) (fun _ => []) Tryz.f52 400
theorem t_X52 : Snd 52 X52 := execFn_sound (ann := fun _ => []) TableOK.nil mixed Tryz.func52 (by kernel_rfl) 400
noncomputable def X77 : Ev.Spec := execFn Tryz.prog G0 (tabOf []) (fun _ => []) Tryz.f77 400
theorem t_X77 : Snd 77 X77 := execFn_sound (ann := fun _ => []) TableOK.nil mixed Tryz.func77 (by kernel_rfl) 400
def ann75 : Nat → List Nat := fun | 8 => [0, 5, 21, 22, 23] | 3 => [0, 1, 5, 10, 11] | _ => []
noncomputable def X75 : Ev.Spec := execFn Tryz.prog G0 (tabOf [(77, X77)]) ann75 Tryz.f75 400
theorem t_X75 : Snd 75 X75 := execFn_sound (ann := ann75) (TableOK.cons t_X77 TableOK.nil) mixed Tryz.func75 (by kernel_rfl) 400
noncomputable def X76 : Ev.Spec := execFn Tryz.prog G0 (tabOf []) (fun _ => []) Tryz.f76 400
theorem t_X76 : Snd 76 X76 := execFn_sound (ann := fun _ => []) TableOK.nil mixed Tryz.func76 (by kernel_rfl) 400
noncomputable def X227 : Ev.Spec := execFn Tryz.prog G0 (tabOf [(76, X76), (77, X77)]) (fun _ => []) Tryz.f227 400
theorem t_X227 : Snd 227 X227 := execFn_sound (ann := fun _ => []) (TableOK.cons t_X76 (TableOK.cons t_X77 TableOK.nil)) mixed Tryz.func227 (by kernel_rfl) 400
noncomputable def X228 : Ev.Spec := execFn Tryz.prog G0 (tabOf [(76, X76), (77, X77)]) (fun _ => []) Tryz.f228 400
theorem t_X228 : Snd 228 X228 := execFn_sound (ann := fun _ => []) (TableOK.cons t_X76 (TableOK.cons t_X77 TableOK.nil)) mixed Tryz.func228 (by kernel_rfl) 400
noncomputable def X133 : Ev.Spec := execFn Tryz.prog G0 (tabOf [(75, X75), (76, X76), (77, X77), (227, X227), (228, X228)]) (fun _ => []) Tryz.f133 400
theorem t_X133 : Snd 133 X133 := execFn_sound (ann := fun _ => []) (TableOK.cons t_X75 (TableOK.cons t_X76 (TableOK.cons t_X77 (TableOK.cons t_X227 (TableOK.cons t_X228 TableOK.nil))))) mixed Tryz.func133 (by kernel_rfl) 400
noncomputable def X56 : Ev.Spec := execFn Tryz.prog G0 (tabOf [(52, X52), (133, X133)]) (fun _ => []) Tryz.f56 400
theorem t_X56 : Snd 56 X56 := execFn_sound (ann := fun _ => []) (TableOK.cons t_X52 (TableOK.cons t_X133 TableOK.nil)) mixed Tryz.func56 (by kernel_rfl) 400
def ann16 : Nat → List Nat := fun | 6 => [2, 4, 6, 8, 42, 43, 44] | _ => []
noncomputable def X16 : Ev.Spec := execFn Tryz.prog G0 (tabOf [(18, X18), (22, X22), (48, X48), (49, X49), (52, X52), (56, X56)]) ann16 Tryz.f16 400
theorem t_X16 : Snd 16 X16 := execFn_sound (ann := ann16) (TableOK.cons t_X18 (TableOK.cons t_X22 (TableOK.cons t_X48 (TableOK.cons t_X49 (TableOK.cons t_X52 (TableOK.cons t_X56 TableOK.nil)))))) mixed Tryz.func16 (by kernel_rfl) 400
noncomputable def X12 : Ev.Spec := execFn Tryz.prog G0 (tabOf [(16, X16)]) (fun _ => []) Tryz.f12 400
theorem t_X12 : Snd 12 X12 := execFn_sound (ann := fun _ => []) (TableOK.cons t_X16 TableOK.nil) mixed Tryz.func12 (by kernel_rfl) 400
end Go.L23

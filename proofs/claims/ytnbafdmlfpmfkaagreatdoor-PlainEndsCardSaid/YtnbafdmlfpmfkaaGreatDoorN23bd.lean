/-
  Part of the proof; what its functions and lemmas say stands in the text.
-/
import Derived.Test.YtnbafdmlfpmfkaaGreatDoorN23A
set_option linter.unusedSimpArgs false
set_option linter.unusedVariables false
set_option maxRecDepth 100000
set_option maxHeartbeats 0
namespace Go.L23
open Go.Ev Go.Proofs Go.RowKit Go.Wh
def rowsK6 : List RowK := [⟨64950, 0#32, [123#8, 123#8], 123#8, .no⟩,
 ⟨64951, 0#32, [123#8, 123#8], 123#8, .no⟩,
 ⟨64952, 0#32, [123#8, 123#8], 123#8, .no⟩,
 ⟨64953, 0#32, [123#8, 123#8], 123#8, .no⟩,
 ⟨64954, 0#32, [123#8, 123#8], 123#8, .no⟩,
 ⟨64956, 0#32, [123#8, 123#8], 123#8, .no⟩,
 ⟨64957, 0#32, [123#8, 123#8], 123#8, .no⟩,
 ⟨64958, 0#32, [123#8, 123#8], 123#8, .no⟩,
 ⟨64959, 0#32, [123#8, 123#8], 123#8, .no⟩,
 ⟨64960, 0#32, [123#8], 123#8, .no⟩,
 ⟨64961, 0#32, [123#8], 123#8, .no⟩,
 ⟨64963, 0#32, [123#8], 127#8, .no⟩,
 ⟨64964, 0#32, [123#8], 127#8, .no⟩,
 ⟨64967, 0#32, [123#8], 123#8, .no⟩,
 ⟨64968, 0#32, [123#8], 123#8, .no⟩,
 ⟨64969, 0#32, [123#8], 123#8, .no⟩,
 ⟨64970, 0#32, [123#8], 123#8, .no⟩,
 ⟨64971, 0#32, [123#8, 127#8], 123#8, .no⟩,
 ⟨64972, 0#32, [123#8, 127#8], 123#8, .no⟩,
 ⟨64973, 0#32, [123#8, 127#8], 123#8, .no⟩,
 ⟨64974, 0#32, [123#8, 123#8], 123#8, .no⟩,
 ⟨64977, 0#32, [123#8, 123#8], 123#8, .no⟩,
 ⟨64981, 0#32, [123#8, 123#8], 123#8, .no⟩,
 ⟨64982, 0#32, [123#8, 123#8], 123#8, .no⟩,
 ⟨64983, 0#32, [123#8, 123#8], 123#8, .no⟩,
 ⟨64984, 0#32, [123#8, 123#8], 123#8, .no⟩,
 ⟨64985, 0#32, [123#8, 123#8], 123#8, .no⟩,
 ⟨64986, 0#32, [123#8, 123#8], 123#8, .no⟩,
 ⟨64987, 0#32, [123#8, 123#8], 123#8, .no⟩,
 ⟨64988, 0#32, [123#8, 123#8], 123#8, .no⟩,
 ⟨64989, 0#32, [123#8, 123#8], 123#8, .no⟩,
 ⟨64990, 0#32, [123#8, 123#8], 123#8, .no⟩,
 ⟨64991, 0#32, [123#8, 123#8], 123#8, .no⟩,
 ⟨64992, 0#32, [123#8], 123#8, .no⟩,
 ⟨64993, 0#32, [123#8], 123#8, .no⟩,
 ⟨64995, 0#32, [123#8], 123#8, .no⟩,
 ⟨64996, 0#32, [123#8, 123#8], 123#8, .no⟩,
 ⟨64997, 0#32, [123#8, 123#8], 123#8, .no⟩,
 ⟨64998, 0#32, [123#8, 123#8], 123#8, .no⟩,
 ⟨64999, 0#32, [123#8, 123#8], 123#8, .no⟩,
 ⟨65000, 0#32, [123#8, 123#8], 123#8, .no⟩,
 ⟨65001, 0#32, [123#8, 123#8], 123#8, .no⟩,
 ⟨65002, 0#32, [123#8, 123#8], 123#8, .no⟩,
 ⟨65003, 0#32, [123#8, 123#8], 123#8, .no⟩,
 ⟨65004, 0#32, [123#8], 123#8, .no⟩]
theorem rowK6 (L : Lf) (X Y : Nat → BitVec 64) : AllP (RowOK L X Y) rowsK6 := by
 refine AllP.cons ?_ (AllP.cons ?_ (AllP.cons ?_ (AllP.cons ?_ (AllP.cons ?_ (AllP.cons ?_ (AllP.cons ?_ (AllP.cons ?_ (AllP.cons ?_ (AllP.cons ?_ (AllP.cons ?_ (AllP.cons ?_ (AllP.cons ?_ (AllP.cons ?_ (AllP.cons ?_ (AllP.cons ?_ (AllP.cons ?_ (AllP.cons ?_ (AllP.cons ?_ (AllP.cons ?_ (AllP.cons ?_ (AllP.cons ?_ (AllP.cons ?_ (AllP.cons ?_ (AllP.cons ?_ (AllP.cons ?_ (AllP.cons ?_ (AllP.cons ?_ (AllP.cons ?_ (AllP.cons ?_ (AllP.cons ?_ (AllP.cons ?_ (AllP.cons ?_ (AllP.cons ?_ (AllP.cons ?_ (AllP.cons ?_ (AllP.cons ?_ (AllP.cons ?_ (AllP.cons ?_ (AllP.cons ?_ (AllP.cons ?_ (AllP.cons ?_ (AllP.cons ?_ (AllP.cons ?_ (AllP.cons ?_ (AllP.nil))))))))))))))))))))))))))))))))))))))))))))) <;> (unfold RowOK; as_aux_lemma => kernel_rfl)
end Go.L23
set_option maxRecDepth 100000
set_option maxHeartbeats 0
namespace Go.L23
open Go.Ev Go.Proofs Go.RowKit Go.Wh
def rowsK7 : List RowK := [⟨65005, 0#32, [123#8], 123#8, .no⟩,
 ⟨65007, 0#32, [123#8], 123#8, .no⟩,
 ⟨65008, 0#32, [123#8, 123#8], 123#8, .no⟩,
 ⟨65009, 0#32, [123#8, 123#8], 123#8, .no⟩,
 ⟨65010, 0#32, [123#8, 123#8], 123#8, .no⟩,
 ⟨65011, 0#32, [123#8, 123#8], 123#8, .no⟩,
 ⟨65012, 0#32, [123#8, 123#8], 123#8, .no⟩,
 ⟨65013, 0#32, [123#8, 123#8], 123#8, .no⟩,
 ⟨65014, 0#32, [123#8, 123#8], 123#8, .no⟩,
 ⟨65015, 0#32, [123#8, 123#8], 123#8, .no⟩,
 ⟨65016, 0#32, [123#8], 123#8, .no⟩,
 ⟨65017, 0#32, [123#8], 123#8, .no⟩,
 ⟨65018, 0#32, [123#8], 123#8, .no⟩,
 ⟨65019, 0#32, [123#8], 123#8, .no⟩,
 ⟨65020, 0#32, [123#8], 123#8, .no⟩,
 ⟨65021, 0#32, [123#8], 123#8, .no⟩,
 ⟨65022, 0#32, [123#8], 123#8, .no⟩,
 ⟨65023, 0#32, [123#8], 123#8, .no⟩]
theorem rowK7 (L : Lf) (X Y : Nat → BitVec 64) : AllP (RowOK L X Y) rowsK7 := by
 refine AllP.cons ?_ (AllP.cons ?_ (AllP.cons ?_ (AllP.cons ?_ (AllP.cons ?_ (AllP.cons ?_ (AllP.cons ?_ (AllP.cons ?_ (AllP.cons ?_ (AllP.cons ?_ (AllP.cons ?_ (AllP.cons ?_ (AllP.cons ?_ (AllP.cons ?_ (AllP.cons ?_ (AllP.cons ?_ (AllP.cons ?_ (AllP.cons ?_ (AllP.nil)))))))))))))))))) <;> (unfold RowOK; as_aux_lemma => kernel_rfl)
end Go.L23
set_option maxRecDepth 100000
set_option maxHeartbeats 0
namespace Go.L23
open Go.Ev Go.Proofs Go.RowKit Go.Wh
def rowsV : List RowV := [⟨167, 0#32, [126#8], 127#8, .id 4294967295#64⟩,
 ⟨188, 0#32, [125#8], 127#8, .as⟩,
 ⟨189, 0#32, [124#8], 126#8, .as⟩,
 ⟨190, 0#32, [127#8], 125#8, .as⟩,
 ⟨191, 0#32, [126#8], 124#8, .as⟩,
 ⟨64795, 0#32, [123#8], 127#8, .get 32 0⟩,
 ⟨64795, 1#32, [123#8], 127#8, .get 32 1⟩,
 ⟨64797, 0#32, [123#8], 126#8, .get 64 0⟩,
 ⟨64797, 1#32, [123#8], 126#8, .get 64 1⟩,
 ⟨64799, 0#32, [123#8], 125#8, .get 32 0⟩,
 ⟨64799, 1#32, [123#8], 125#8, .get 32 1⟩,
 ⟨64801, 0#32, [123#8], 124#8, .get 64 0⟩,
 ⟨64801, 1#32, [123#8], 124#8, .get 64 1⟩]
theorem rowV (L : Lf) (X Y : Nat → BitVec 64) : AllP (RowVOK L X Y) rowsV := by
 refine AllP.cons ?_ (AllP.cons ?_ (AllP.cons ?_ (AllP.cons ?_ (AllP.cons ?_ (AllP.cons ?_ (AllP.cons ?_ (AllP.cons ?_ (AllP.cons ?_ (AllP.cons ?_ (AllP.cons ?_ (AllP.cons ?_ (AllP.cons ?_ (AllP.nil))))))))))))) <;> (unfold RowVOK; as_aux_lemma => kernel_rfl)
def rowsT : List RowT := [⟨109, [127#8, 127#8], 127#8, .div 6#8 32⟩,
 ⟨110, [127#8, 127#8], 127#8, .div 4#8 32⟩,
 ⟨111, [127#8, 127#8], 127#8, .div 7#8 32⟩,
 ⟨112, [127#8, 127#8], 127#8, .div 5#8 32⟩,
 ⟨127, [126#8, 126#8], 126#8, .div 6#8 64⟩,
 ⟨128, [126#8, 126#8], 126#8, .div 4#8 64⟩,
 ⟨129, [126#8, 126#8], 126#8, .div 7#8 64⟩,
 ⟨130, [126#8, 126#8], 126#8, .div 5#8 64⟩,
 ⟨168, [125#8], 127#8, .cut 32 32 true⟩,
 ⟨169, [125#8], 127#8, .cut 32 32 false⟩,
 ⟨170, [124#8], 127#8, .cut 64 32 true⟩,
 ⟨171, [124#8], 127#8, .cut 64 32 false⟩,
 ⟨174, [125#8], 126#8, .cut 32 64 true⟩,
 ⟨175, [125#8], 126#8, .cut 32 64 false⟩,
 ⟨176, [124#8], 126#8, .cut 64 64 true⟩,
 ⟨177, [124#8], 126#8, .cut 64 64 false⟩]
theorem rowT (L : Lf) (X Y : Nat → BitVec 64) : AllP (RowTOK L X Y) rowsT := by
 refine AllP.cons ?_ (AllP.cons ?_ (AllP.cons ?_ (AllP.cons ?_ (AllP.cons ?_ (AllP.cons ?_ (AllP.cons ?_ (AllP.cons ?_ (AllP.cons ?_ (AllP.cons ?_ (AllP.cons ?_ (AllP.cons ?_ (AllP.cons ?_ (AllP.cons ?_ (AllP.cons ?_ (AllP.cons ?_ (AllP.nil)))))))))))))))) <;> (unfold RowTOK; as_aux_lemma => kernel_rfl)
theorem con65 (L : Lf) (N : BitVec 64) (X Y : Nat → BitVec 64) : Xdo L 65 0#32 N z16 [] X Y = if (N >>> 32 == 0#64) = true then some (okE 127#8 N) else some errR := by kernel_rfl
theorem con66 (L : Lf) (N : BitVec 64) (X Y : Nat → BitVec 64) : Xdo L 66 0#32 N z16 [] X Y = some (okE 126#8 N) := by kernel_rfl
theorem con67 (L : Lf) (N : BitVec 64) (X Y : Nat → BitVec 64) : Xdo L 67 0#32 N z16 [] X Y = if (N >>> 32 == 0#64) = true then some (okE 125#8 N) else some errR := by kernel_rfl
theorem con68 (L : Lf) (N : BitVec 64) (X Y : Nat → BitVec 64) : Xdo L 68 0#32 N z16 [] X Y = some (okE 124#8 N) := by kernel_rfl
theorem con64780 (L : Lf) (v0 v1 v2 v3 v4 v5 v6 v7 v8 v9 v10 v11 v12 v13 v14 v15 : BitVec 8) (X Y : Nat → BitVec 64) : Xdo L 64780 0#32 0#64 [v0, v1, v2, v3, v4, v5, v6, v7, v8, v9, v10, v11, v12, v13, v14, v15] [] X Y = some (okR 123#8) := by kernel_rfl
theorem shu64781 (L : Lf) (v0 v1 v2 v3 v4 v5 v6 v7 v8 v9 v10 v11 v12 v13 v14 v15 : BitVec 8) (X Y : Nat → BitVec 64) : Xdo L 64781 0#32 0#64 [v0, v1, v2, v3, v4, v5, v6, v7, v8, v9, v10, v11, v12, v13, v14, v15] [123#8, 123#8] X Y = gd (hasB L [123#8, 123#8] X Y) (gd (16 == 16 && [v0, v1, v2, v3, v4, v5, v6, v7, v8, v9, v10, v11, v12, v13, v14, v15].all (fun c => decide (c < 32#8))) (some (okR 123#8))) := by kernel_rfl
end Go.L23

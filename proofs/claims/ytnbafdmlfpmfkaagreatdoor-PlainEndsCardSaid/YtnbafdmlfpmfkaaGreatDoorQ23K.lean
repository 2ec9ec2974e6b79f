/-
  Part of the proof; what its functions and lemmas say stands in the text.
-/
import Derived.Test.YtnbafdmlfpmfkaaGreatDoorQ23o
import Derived.Test.YtnbafdmlfpmfkaaGreatDoorQ23oA
import Derived.Test.YtnbafdmlfpmfkaaGreatDoorQ23oB
import Derived.Test.YtnbafdmlfpmfkaaGreatDoorQ23oC
import Derived.Test.YtnbafdmlfpmfkaaGreatDoorR23
import Derived.Test.YtnbafdmlfpmfkaaGreatDoorS23A
set_option linter.unusedSimpArgs false
set_option linter.unusedVariables false
set_option maxRecDepth 100000
set_option maxHeartbeats 0
namespace Go.L23
open Go.Ev Go.Proofs Go.RowKit Go.Wh
def regAt (n : Nat) : Code → Code
 | .region id ops d => if id == n then .region id ops d else .skip
 | .seq a b => match regAt n a with | .skip => regAt n b | c => c
 | .cond _ a b => match regAt n a with | .skip => regAt n b | c => c
 | .block _ c => regAt n c
 | .loop c => regAt n c
 | _ => .skip
def eOf (c : Nat) : Code → Code
 | .cond (.tmp t) a b => if t == c then b else match eOf c a with | .skip => eOf c b | x => x
 | .seq a b => match eOf c a with | .skip => eOf c b | x => x
 | .block _ x => eOf c x
 | .loop x => eOf c x
 | _ => .skip
def tOf (c : Nat) : Code → Code
 | .cond (.tmp t) a b => if t == c then a else match tOf c a with | .skip => tOf c b | x => x
 | .seq a b => match tOf c a with | .skip => tOf c b | x => x
 | .block _ x => tOf c x
 | .loop x => tOf c x
 | _ => .skip
def tailOf : Code → Code
 | .seq _ (.seq _ (.seq _ d)) => d
 | _ => .skip
noncomputable abbrev B69 : Code := Tryz.f69.body.getD .skip
noncomputable abbrev e69 (c : Code) (s : St) (K : Ex → St → Option D) : Option D := exec Tryz.prog G0 (tabOf []) (fun _ => []) (fun _ => none) 50 c s K
theorem parts69 : B69 = .seq (regAt 0 B69) (.seq (regAt 1 B69) (.seq (.block 0 (.seq (regAt 2 B69) (.cond (.tmp 7) (tOf 7 B69) (eOf 7 B69)))) (tailOf B69))) := by kernel_rfl
theorem else7 : eOf 7 B69 = .seq (regAt 4 B69) (.cond (.tmp 19) (tOf 19 B69) (eOf 19 B69)) := by kernel_rfl
theorem else19 : eOf 19 B69 = .seq (regAt 6 B69) (.cond (.tmp 32) (.seq (regAt 7 B69) .ret) (eOf 32 B69)) := by kernel_rfl
theorem run_block (a b c d : Code) (st : St) (K : Ex → St → Option D) : e69 (.seq a (.seq b (.seq (.block 0 c) d))) st K =
 e69 (.seq a b) st (fun e st1 => match e with
  | .normal => e69 c st1 (fun e st2 => match e with | .normal => e69 d st2 K | .exit i => if i = 0 then e69 d st2 K else K (.exit i) st2 | .ret => K .ret st2)
  | .exit i => K (.exit i) st1
  | .ret => K .ret st1) := rfl
theorem gap0 (o : BitVec 16) (K : Ex → St → Option D) : e69 (.seq (regAt 0 B69) (regAt 1 B69)) ⟨mkT 53 [(0, .u16 o)], []⟩ K = K .normal ⟨mkT 53 [(0, .u16 o), (2, .ptr 0 0), (3, .bool false), (4, .i .i64 (sOfU .i64 o)), (5, .u16 o), (6, .i .i64 (sOfU .i64 o))], [some ⟨.agg [.c (.string ⟨⟨[]⟩⟩), .c (.string ⟨⟨[]⟩⟩), .u8 0#8, .i .i64 0, .bool false], true⟩, none, none, none, none]⟩ := by kernel_rfl
theorem gap1 (o : BitVec 16) (n : Int) (X Y : Code) (K : Ex → St → Option D) : e69 (.seq (regAt 2 B69) (.cond (.tmp 7) Y X)) ⟨mkT 53 [(0, .u16 o), (2, .ptr 0 0), (3, .bool false), (4, .i .i64 n), (5, .u16 o), (6, .i .i64 n)], [some ⟨.agg [.c (.string ⟨⟨[]⟩⟩), .c (.string ⟨⟨[]⟩⟩), .u8 0#8, .i .i64 0, .bool false], true⟩, none, none, none, none]⟩ K =
 if decide (64768 ≤ n) = true then if decide (n ≤ 65023) = true then e69 Y ⟨mkT 53 [(0, .u16 o), (2, .ptr 0 0), (3, .bool false), (4, .i .i64 n), (5, .u16 o), (6, .i .i64 n), (7, .bool true), (8, .i .i64 n), (9, .bool (decide (64768 ≤ n))), (10, .bool true), (11, .i .i64 n), (12, .bool (decide (n ≤ 65023))), (13, .bool (decide (n ≤ 65023)))], [some ⟨.agg [.c (.string ⟨⟨[]⟩⟩), .c (.string ⟨⟨[]⟩⟩), .u8 0#8, .i .i64 0, .bool false], true⟩, none, none, none, none, none, none, none, none, none, none, none]⟩ K else e69 X ⟨mkT 53 [(0, .u16 o), (2, .ptr 0 0), (3, .bool false), (4, .i .i64 n), (5, .u16 o), (6, .i .i64 n), (7, .bool false), (8, .i .i64 n), (9, .bool (decide (64768 ≤ n))), (10, .bool true), (11, .i .i64 n), (12, .bool (decide (n ≤ 65023))), (13, .bool (decide (n ≤ 65023)))], [some ⟨.agg [.c (.string ⟨⟨[]⟩⟩), .c (.string ⟨⟨[]⟩⟩), .u8 0#8, .i .i64 0, .bool false], true⟩, none, none, none, none, none, none, none, none, none, none, none]⟩ K else e69 X ⟨mkT 53 [(0, .u16 o), (2, .ptr 0 0), (3, .bool false), (4, .i .i64 n), (5, .u16 o), (6, .i .i64 n), (7, .bool false), (8, .i .i64 n), (9, .bool (decide (64768 ≤ n))), (10, .bool (!true)), (11, .c undef), (12, .c undef), (13, .bool false)], [some ⟨.agg [.c (.string ⟨⟨[]⟩⟩), .c (.string ⟨⟨[]⟩⟩), .u8 0#8, .i .i64 0, .bool false], true⟩, none, none, none, none, none, none, none, none, none, none, none]⟩ K := by kernel_rfl
theorem gap2a (o : BitVec 16) (n : Int) (p q : Bool) (X Y : Code) (K : Ex → St → Option D) : e69 (.seq (regAt 4 B69) (.cond (.tmp 19) Y X)) ⟨mkT 53 [(0, .u16 o), (2, .ptr 0 0), (3, .bool false), (4, .i .i64 n), (5, .u16 o), (6, .i .i64 n), (7, .bool false), (8, .i .i64 n), (9, .bool p), (10, .bool true), (11, .i .i64 n), (12, .bool q), (13, .bool q)], [some ⟨.agg [.c (.string ⟨⟨[]⟩⟩), .c (.string ⟨⟨[]⟩⟩), .u8 0#8, .i .i64 0, .bool false], true⟩, none, none, none, none, none, none, none, none, none, none, none]⟩ K =
 if decide (64512 ≤ n) = true then if decide (n ≤ 64767) = true then e69 Y ⟨mkT 53 [(0, .u16 o), (2, .ptr 0 0), (3, .bool false), (4, .i .i64 n), (5, .u16 o), (6, .i .i64 n), (7, .bool false), (8, .i .i64 n), (9, .bool p), (10, .bool true), (11, .i .i64 n), (12, .bool q), (13, .bool q), (19, .bool true), (20, .i .i64 n), (21, .bool (decide (64512 ≤ n))), (22, .bool true), (23, .i .i64 n), (24, .bool (decide (n ≤ 64767))), (25, .bool (decide (n ≤ 64767)))], [some ⟨.agg [.c (.string ⟨⟨[]⟩⟩), .c (.string ⟨⟨[]⟩⟩), .u8 0#8, .i .i64 0, .bool false], true⟩, none, none, none, none, none, none, none, none, none, none, none, none, none, none, none, none, none, none]⟩ K else e69 X ⟨mkT 53 [(0, .u16 o), (2, .ptr 0 0), (3, .bool false), (4, .i .i64 n), (5, .u16 o), (6, .i .i64 n), (7, .bool false), (8, .i .i64 n), (9, .bool p), (10, .bool true), (11, .i .i64 n), (12, .bool q), (13, .bool q), (19, .bool false), (20, .i .i64 n), (21, .bool (decide (64512 ≤ n))), (22, .bool true), (23, .i .i64 n), (24, .bool (decide (n ≤ 64767))), (25, .bool (decide (n ≤ 64767)))], [some ⟨.agg [.c (.string ⟨⟨[]⟩⟩), .c (.string ⟨⟨[]⟩⟩), .u8 0#8, .i .i64 0, .bool false], true⟩, none, none, none, none, none, none, none, none, none, none, none, none, none, none, none, none, none, none]⟩ K else e69 X ⟨mkT 53 [(0, .u16 o), (2, .ptr 0 0), (3, .bool false), (4, .i .i64 n), (5, .u16 o), (6, .i .i64 n), (7, .bool false), (8, .i .i64 n), (9, .bool p), (10, .bool true), (11, .i .i64 n), (12, .bool q), (13, .bool q), (19, .bool false), (20, .i .i64 n), (21, .bool (decide (64512 ≤ n))), (22, .bool (!true)), (23, .c undef), (24, .c undef), (25, .bool false)], [some ⟨.agg [.c (.string ⟨⟨[]⟩⟩), .c (.string ⟨⟨[]⟩⟩), .u8 0#8, .i .i64 0, .bool false], true⟩, none, none, none, none, none, none, none, none, none, none, none, none, none, none, none, none, none, none]⟩ K := by kernel_rfl
theorem gap2b (o : BitVec 16) (n : Int) (p : Bool) (X Y : Code) (K : Ex → St → Option D) : e69 (.seq (regAt 4 B69) (.cond (.tmp 19) Y X)) ⟨mkT 53 [(0, .u16 o), (2, .ptr 0 0), (3, .bool false), (4, .i .i64 n), (5, .u16 o), (6, .i .i64 n), (7, .bool false), (8, .i .i64 n), (9, .bool p), (10, .bool (!true)), (11, .c undef), (12, .c undef), (13, .bool false)], [some ⟨.agg [.c (.string ⟨⟨[]⟩⟩), .c (.string ⟨⟨[]⟩⟩), .u8 0#8, .i .i64 0, .bool false], true⟩, none, none, none, none, none, none, none, none, none, none, none]⟩ K =
 if decide (64512 ≤ n) = true then if decide (n ≤ 64767) = true then e69 Y ⟨mkT 53 [(0, .u16 o), (2, .ptr 0 0), (3, .bool false), (4, .i .i64 n), (5, .u16 o), (6, .i .i64 n), (7, .bool false), (8, .i .i64 n), (9, .bool p), (10, .bool (!true)), (11, .c undef), (12, .c undef), (13, .bool false), (19, .bool true), (20, .i .i64 n), (21, .bool (decide (64512 ≤ n))), (22, .bool true), (23, .i .i64 n), (24, .bool (decide (n ≤ 64767))), (25, .bool (decide (n ≤ 64767)))], [some ⟨.agg [.c (.string ⟨⟨[]⟩⟩), .c (.string ⟨⟨[]⟩⟩), .u8 0#8, .i .i64 0, .bool false], true⟩, none, none, none, none, none, none, none, none, none, none, none, none, none, none, none, none, none, none]⟩ K else e69 X ⟨mkT 53 [(0, .u16 o), (2, .ptr 0 0), (3, .bool false), (4, .i .i64 n), (5, .u16 o), (6, .i .i64 n), (7, .bool false), (8, .i .i64 n), (9, .bool p), (10, .bool (!true)), (11, .c undef), (12, .c undef), (13, .bool false), (19, .bool false), (20, .i .i64 n), (21, .bool (decide (64512 ≤ n))), (22, .bool true), (23, .i .i64 n), (24, .bool (decide (n ≤ 64767))), (25, .bool (decide (n ≤ 64767)))], [some ⟨.agg [.c (.string ⟨⟨[]⟩⟩), .c (.string ⟨⟨[]⟩⟩), .u8 0#8, .i .i64 0, .bool false], true⟩, none, none, none, none, none, none, none, none, none, none, none, none, none, none, none, none, none, none]⟩ K else e69 X ⟨mkT 53 [(0, .u16 o), (2, .ptr 0 0), (3, .bool false), (4, .i .i64 n), (5, .u16 o), (6, .i .i64 n), (7, .bool false), (8, .i .i64 n), (9, .bool p), (10, .bool (!true)), (11, .c undef), (12, .c undef), (13, .bool false), (19, .bool false), (20, .i .i64 n), (21, .bool (decide (64512 ≤ n))), (22, .bool (!true)), (23, .c undef), (24, .c undef), (25, .bool false)], [some ⟨.agg [.c (.string ⟨⟨[]⟩⟩), .c (.string ⟨⟨[]⟩⟩), .u8 0#8, .i .i64 0, .bool false], true⟩, none, none, none, none, none, none, none, none, none, none, none, none, none, none, none, none, none, none]⟩ K := by kernel_rfl
theorem gap3a (o : BitVec 16) (n : Int) (p q r u : Bool) (X : Code) (K : Ex → St → Option D) : e69 (.seq (regAt 6 B69) (.cond (.tmp 32) (.seq (regAt 7 B69) .ret) X)) ⟨mkT 53 [(0, .u16 o), (2, .ptr 0 0), (3, .bool false), (4, .i .i64 n), (5, .u16 o), (6, .i .i64 n), (7, .bool false), (8, .i .i64 n), (9, .bool p), (10, .bool true), (11, .i .i64 n), (12, .bool q), (13, .bool q), (19, .bool false), (20, .i .i64 n), (21, .bool r), (22, .bool true), (23, .i .i64 n), (24, .bool u), (25, .bool u)], [some ⟨.agg [.c (.string ⟨⟨[]⟩⟩), .c (.string ⟨⟨[]⟩⟩), .u8 0#8, .i .i64 0, .bool false], true⟩, none, none, none, none, none, none, none, none, none, none, none, none, none, none, none, none, none, none]⟩ K =
 if decide (255 < n) = true then K .ret ⟨mkT 53 [(0, .u16 o), (2, .ptr 0 0), (3, .bool false), (4, .i .i64 n), (5, .u16 o), (6, .i .i64 n), (7, .bool false), (8, .i .i64 n), (9, .bool p), (10, .bool true), (11, .i .i64 n), (12, .bool q), (13, .bool q), (19, .bool false), (20, .i .i64 n), (21, .bool r), (22, .bool true), (23, .i .i64 n), (24, .bool u), (25, .bool u), (32, .bool true), (33, .i .i64 n), (34, .bool (decide (255 < n))), (35, .agg [.c (Value.string { data := #[] }), .c (Value.string { data := #[] }), .u8 0#8, .i .i64 0, .bool false])], [some ⟨.agg [.c (.string ⟨⟨[]⟩⟩), .c (.string ⟨⟨[]⟩⟩), .u8 0#8, .i .i64 0, .bool false], true⟩, none, none, none, none, none, none, none, none, none, none, none, none, none, none, none, none, none, none, none, none, none, none, none, none]⟩ else e69 X ⟨mkT 53 [(0, .u16 o), (2, .ptr 0 0), (3, .bool false), (4, .i .i64 n), (5, .u16 o), (6, .i .i64 n), (7, .bool false), (8, .i .i64 n), (9, .bool p), (10, .bool true), (11, .i .i64 n), (12, .bool q), (13, .bool q), (19, .bool false), (20, .i .i64 n), (21, .bool r), (22, .bool true), (23, .i .i64 n), (24, .bool u), (25, .bool u), (32, .bool false), (33, .i .i64 n), (34, .bool (decide (255 < n)))], [some ⟨.agg [.c (.string ⟨⟨[]⟩⟩), .c (.string ⟨⟨[]⟩⟩), .u8 0#8, .i .i64 0, .bool false], true⟩, none, none, none, none, none, none, none, none, none, none, none, none, none, none, none, none, none, none, none, none, none]⟩ K := by kernel_rfl
theorem gap3b (o : BitVec 16) (n : Int) (p r : Bool) (X : Code) (K : Ex → St → Option D) : e69 (.seq (regAt 6 B69) (.cond (.tmp 32) (.seq (regAt 7 B69) .ret) X)) ⟨mkT 53 [(0, .u16 o), (2, .ptr 0 0), (3, .bool false), (4, .i .i64 n), (5, .u16 o), (6, .i .i64 n), (7, .bool false), (8, .i .i64 n), (9, .bool p), (10, .bool (!true)), (11, .c undef), (12, .c undef), (13, .bool false), (19, .bool false), (20, .i .i64 n), (21, .bool r), (22, .bool (!true)), (23, .c undef), (24, .c undef), (25, .bool false)], [some ⟨.agg [.c (.string ⟨⟨[]⟩⟩), .c (.string ⟨⟨[]⟩⟩), .u8 0#8, .i .i64 0, .bool false], true⟩, none, none, none, none, none, none, none, none, none, none, none, none, none, none, none, none, none, none]⟩ K =
 if decide (255 < n) = true then K .ret ⟨mkT 53 [(0, .u16 o), (2, .ptr 0 0), (3, .bool false), (4, .i .i64 n), (5, .u16 o), (6, .i .i64 n), (7, .bool false), (8, .i .i64 n), (9, .bool p), (10, .bool (!true)), (11, .c undef), (12, .c undef), (13, .bool false), (19, .bool false), (20, .i .i64 n), (21, .bool r), (22, .bool (!true)), (23, .c undef), (24, .c undef), (25, .bool false), (32, .bool true), (33, .i .i64 n), (34, .bool (decide (255 < n))), (35, .agg [.c (Value.string { data := #[] }), .c (Value.string { data := #[] }), .u8 0#8, .i .i64 0, .bool false])], [some ⟨.agg [.c (.string ⟨⟨[]⟩⟩), .c (.string ⟨⟨[]⟩⟩), .u8 0#8, .i .i64 0, .bool false], true⟩, none, none, none, none, none, none, none, none, none, none, none, none, none, none, none, none, none, none, none, none, none, none, none, none]⟩ else e69 X ⟨mkT 53 [(0, .u16 o), (2, .ptr 0 0), (3, .bool false), (4, .i .i64 n), (5, .u16 o), (6, .i .i64 n), (7, .bool false), (8, .i .i64 n), (9, .bool p), (10, .bool (!true)), (11, .c undef), (12, .c undef), (13, .bool false), (19, .bool false), (20, .i .i64 n), (21, .bool r), (22, .bool (!true)), (23, .c undef), (24, .c undef), (25, .bool false), (32, .bool false), (33, .i .i64 n), (34, .bool (decide (255 < n)))], [some ⟨.agg [.c (.string ⟨⟨[]⟩⟩), .c (.string ⟨⟨[]⟩⟩), .u8 0#8, .i .i64 0, .bool false], true⟩, none, none, none, none, none, none, none, none, none, none, none, none, none, none, none, none, none, none, none, none, none]⟩ K := by kernel_rfl
noncomputable abbrev K69 : Ex → St → Option D := fun e st => match e with
 | .exit _ => none
 | _ => resK Tryz.prog st Tryz.f69.results.toList (finK st some)
theorem start69 (o : BitVec 16) : ex [] (fun _ => []) Tryz.f69 [.u16 o] some = e69 B69 ⟨mkT 53 [(0, .u16 o)], []⟩ K69 := by kernel_rfl
theorem fin69a (o : BitVec 16) (n : Int) (p q r u v : Bool) : K69 .ret ⟨mkT 53 [(0, .u16 o), (2, .ptr 0 0), (3, .bool false), (4, .i .i64 n), (5, .u16 o), (6, .i .i64 n), (7, .bool false), (8, .i .i64 n), (9, .bool p), (10, .bool true), (11, .i .i64 n), (12, .bool q), (13, .bool q), (19, .bool false), (20, .i .i64 n), (21, .bool r), (22, .bool true), (23, .i .i64 n), (24, .bool u), (25, .bool u), (32, .bool true), (33, .i .i64 n), (34, .bool v), (35, .agg [.c (Value.string { data := #[] }), .c (Value.string { data := #[] }), .u8 0#8, .i .i64 0, .bool false])], [some ⟨.agg [.c (.string ⟨⟨[]⟩⟩), .c (.string ⟨⟨[]⟩⟩), .u8 0#8, .i .i64 0, .bool false], true⟩, none, none, none, none, none, none, none, none, none, none, none, none, none, none, none, none, none, none, none, none, none, none, none, none]⟩ = some zfind := by kernel_rfl
theorem fin69b (o : BitVec 16) (n : Int) (p r v : Bool) : K69 .ret ⟨mkT 53 [(0, .u16 o), (2, .ptr 0 0), (3, .bool false), (4, .i .i64 n), (5, .u16 o), (6, .i .i64 n), (7, .bool false), (8, .i .i64 n), (9, .bool p), (10, .bool (!true)), (11, .c undef), (12, .c undef), (13, .bool false), (19, .bool false), (20, .i .i64 n), (21, .bool r), (22, .bool (!true)), (23, .c undef), (24, .c undef), (25, .bool false), (32, .bool true), (33, .i .i64 n), (34, .bool v), (35, .agg [.c (Value.string { data := #[] }), .c (Value.string { data := #[] }), .u8 0#8, .i .i64 0, .bool false])], [some ⟨.agg [.c (.string ⟨⟨[]⟩⟩), .c (.string ⟨⟨[]⟩⟩), .u8 0#8, .i .i64 0, .bool false], true⟩, none, none, none, none, none, none, none, none, none, none, none, none, none, none, none, none, none, none, none, none, none, none, none, none]⟩ = some zfind := by kernel_rfl
theorem gap_run (o : BitVec 16) (h1 : 256 ≤ sOfU .i64 o) (h2 : ¬ (64512 ≤ sOfU .i64 o ∧ sOfU .i64 o < 65024)) : ex [] (fun _ => []) Tryz.f69 [.u16 o] some = some zfind := by
 rw [start69, parts69, run_block, gap0]
 show e69 _ _ _ = _
 generalize sOfU .i64 o = n at h1 h2
 rw [gap1]
 have c5 : decide (255 < n) = true := decide_eq_true (by omega)
 by_cases c1 : 64768 ≤ n
 ·have e1 : decide (64768 ≤ n) = true := decide_eq_true c1
  have e2 : decide (n ≤ 65023) = false := decide_eq_false (by omega)
  have e3 : decide (64512 ≤ n) = true := decide_eq_true (by omega)
  have e4 : decide (n ≤ 64767) = false := decide_eq_false (by omega)
  rw [if_pos e1, if_neg (by rw [e2]; exact Bool.false_ne_true), else7, gap2a, if_pos e3, if_neg (by rw [e4]; exact Bool.false_ne_true), else19, gap3a, if_pos c5]
  exact fin69a o n _ _ _ _ _
 ·have e1 : decide (64768 ≤ n) = false := decide_eq_false c1
  have e3 : decide (64512 ≤ n) = false := decide_eq_false (by omega)
  rw [if_neg (by rw [e1]; exact Bool.false_ne_true), else7, gap2b, if_neg (by rw [e3]; exact Bool.false_ne_true), else19, gap3b, if_pos c5]
  exact fin69b o n _ _ _
end Go.L23
set_option maxRecDepth 100000
set_option maxHeartbeats 0
namespace Go.L23
open Go.Ev Go.Proofs Go.RowKit Go.Wh
noncomputable def ofS : Ev.Spec := joined fun | [.u16 o] => some (infF o.toNat) | _ => none
def askL (s : Nat) : List Nat := List.range' s 96
theorem ask_mem {s n : Nat} (h1 : s ≤ n) (h2 : n < s + 96) : n ∈ askL s := by
 unfold askL
 rw [List.mem_range'_1]
 exact ⟨h1, h2⟩
theorem off_0 {n : Nat} (h1 : 0 ≤ n) (h2 : n < 96) : Xof [.u16 (BitVec.ofNat 16 n)] some = some (infF n) := AllP.mem (P := fun n : Nat => Xof [.u16 (BitVec.ofNat 16 n)] some = some (infF n)) (l := askL 0) of_0 (ask_mem h1 h2)
theorem off_1 {n : Nat} (h1 : 96 ≤ n) (h2 : n < 192) : Xof [.u16 (BitVec.ofNat 16 n)] some = some (infF n) := AllP.mem (P := fun n : Nat => Xof [.u16 (BitVec.ofNat 16 n)] some = some (infF n)) (l := askL 96) of_1 (ask_mem h1 h2)
theorem off_2 {n : Nat} (h : 192 ≤ n ∧ n < 256 ∨ 64512 ≤ n ∧ n < 64544) : Xof [.u16 (BitVec.ofNat 16 n)] some = some (infF n) := by
 refine AllP.mem (P := fun n : Nat => Xof [.u16 (BitVec.ofNat 16 n)] some = some (infF n)) (l := List.range' 192 64 ++ List.range' 64512 32) of_2 ?_
 rw [List.mem_append, List.mem_range'_1, List.mem_range'_1]
 omega
theorem off_3 {n : Nat} (h1 : 64544 ≤ n) (h2 : n < 64640) : Xof [.u16 (BitVec.ofNat 16 n)] some = some (infF n) := AllP.mem (P := fun n : Nat => Xof [.u16 (BitVec.ofNat 16 n)] some = some (infF n)) (l := askL 64544) of_3 (ask_mem h1 h2)
theorem off_4 {n : Nat} (h1 : 64640 ≤ n) (h2 : n < 64736) : Xof [.u16 (BitVec.ofNat 16 n)] some = some (infF n) := AllP.mem (P := fun n : Nat => Xof [.u16 (BitVec.ofNat 16 n)] some = some (infF n)) (l := askL 64640) of_4 (ask_mem h1 h2)
theorem off_5 {n : Nat} (h1 : 64736 ≤ n) (h2 : n < 64832) : Xof [.u16 (BitVec.ofNat 16 n)] some = some (infF n) := AllP.mem (P := fun n : Nat => Xof [.u16 (BitVec.ofNat 16 n)] some = some (infF n)) (l := askL 64736) of_5 (ask_mem h1 h2)
theorem off_6 {n : Nat} (h1 : 64832 ≤ n) (h2 : n < 64928) : Xof [.u16 (BitVec.ofNat 16 n)] some = some (infF n) := AllP.mem (P := fun n : Nat => Xof [.u16 (BitVec.ofNat 16 n)] some = some (infF n)) (l := askL 64832) of_6 (ask_mem h1 h2)
theorem off_7 {n : Nat} (h1 : 64928 ≤ n) (h2 : n < 65024) : Xof [.u16 (BitVec.ofNat 16 n)] some = some (infF n) := AllP.mem (P := fun n : Nat => Xof [.u16 (BitVec.ofNat 16 n)] some = some (infF n)) (l := askL 64928) of_7 (ask_mem h1 h2)
theorem lookO_none : ∀ {l : List Ins} {n : Nat}, (∀ i ∈ l, i.op ≠ n) → lookO l n = none
 | [], _, _ => rfl
 | i :: l, n, h => by
  have h0 : (n == i.op) = false := by
   have := h i List.mem_cons_self
   simpa using fun e : n = i.op => this e.symm
  simp only [lookO, h0, Bool.false_eq_true, if_false]
  exact lookO_none fun j hj => h j (List.mem_cons_of_mem _ hj)
def inPage (n : Nat) : Bool := decide (n < 256) || (decide (64512 ≤ n) && decide (n < 65024))
theorem pages : insAll.all (fun i => inPage i.op) = true := by kernel_rfl
theorem infF_gap {n : Nat} (h : inPage n = false) : infF n = .tup [noInfo, .i .i64 11] := by
 unfold infF
 rw [lookO_none fun i hi e => by
  have := List.all_eq_true.1 pages i hi
  rw [e, h] at this
  cases this]
noncomputable def gapS : Ev.Spec := guarded fun | [.u16 o] => some (!inPage o.toNat, zfind) | _ => none
theorem sOfU16 (o : BitVec 16) : sOfU .i64 o = (o.toNat : Int) := by
 unfold sOfU
 rw [if_pos (by decide)]
theorem t_gap : Snd 69 gapS := by
 refine Sound.guard (execFn_sound (ann := fun _ => []) TableOK.nil mixed Tryz.func69 (by kernel_rfl) 50) fun ds d h => ?_
 split at h
 ·rename_i o
  simp only [Option.some.injEq, Prod.mk.injEq] at h
  obtain ⟨h, rfl⟩ := h
  simp only [inPage, Bool.not_eq_true', Bool.or_eq_false_iff, Bool.and_eq_false_iff, decide_eq_false_iff_not] at h
  exact gap_run o (by rw [sOfU16]; omega) (by rw [sOfU16]; omega)
 ·cases h
theorem of_gap (o : BitVec 16) : ex [(69, gapS)] (fun _ => []) Tryz.f18 [.u16 o] some = if (!inPage o.toNat) = true then some (.tup [noInfo, .i .i64 11]) else none := by kernel_rfl
theorem t_of : Snd 18 ofS := by
 refine Sound.of_pt fun ds d h => ?_
 split at h
 ·rename_i o
  cases h
  cases hp : inPage o.toNat
  ·rw [infF_gap hp]
   refine (execFn_sound (ann := fun _ => []) (TableOK.cons t_gap TableOK.nil) mixed Tryz.func18 (by kernel_rfl) 50).pt ((of_gap o).trans ?_)
   rw [hp]; rfl
  ·refine t_Xof.pt ?_
   have e : BitVec.ofNat 16 o.toNat = o := BitVec.ofNat_toNat 16 o ▸ by simp
   simp only [inPage, Bool.or_eq_true, Bool.and_eq_true, decide_eq_true_eq] at hp
   have key : Xof [.u16 (BitVec.ofNat 16 o.toNat)] some = some (infF o.toNat) := by
    have hc : (0 ≤ o.toNat ∧ o.toNat < 96) ∨ (96 ≤ o.toNat ∧ o.toNat < 192) ∨ ((192 ≤ o.toNat ∧ o.toNat < 256 ∨ 64512 ≤ o.toNat ∧ o.toNat < 64544)) ∨ (64544 ≤ o.toNat ∧ o.toNat < 64640) ∨ (64640 ≤ o.toNat ∧ o.toNat < 64736) ∨ (64736 ≤ o.toNat ∧ o.toNat < 64832) ∨ (64832 ≤ o.toNat ∧ o.toNat < 64928) ∨ (64928 ≤ o.toNat ∧ o.toNat < 65024) := by omega
    rcases hc with h | h | h | h | h | h | h | h
    ·exact off_0 h.1 h.2
    ·exact off_1 h.1 h.2
    ·exact off_2 h
    ·exact off_3 h.1 h.2
    ·exact off_4 h.1 h.2
    ·exact off_5 h.1 h.2
    ·exact off_6 h.1 h.2
    ·exact off_7 h.1 h.2
   rw [e] at key
   exact key
 ·cases h
end Go.L23
set_option maxRecDepth 100000
namespace Go.L23
open Go.Ev Go.Proofs Go.RowKit Go.Wh
noncomputable def X74 : Ev.Spec := execFn Tryz.prog G0 (tabOf []) (fun _ => []) Tryz.f74 400
theorem t_X74 : Snd 74 X74 := execFn_sound (ann := fun _ => []) TableOK.nil mixed Tryz.func74 (by kernel_rfl) 400
noncomputable def X28 : Ev.Spec := execFn Tryz.prog G0 (tabOf [(74, X74)]) (fun _ => []) Tryz.f28 400
theorem t_X28 : Snd 28 X28 := execFn_sound (ann := fun _ => []) (TableOK.cons t_X74 TableOK.nil) mixed Tryz.func28 (by kernel_rfl) 400
end Go.L23
set_option maxRecDepth 100000
namespace Go.L23
open Go.Ev Go.Proofs Go.RowKit Go.Wh
def hasF (t : BitVec 8) (x y : BitVec 64) : Bool :=
 if t = 127#8 ∨ t = 125#8 then decide (x ≤ 4294967295#64) && y == 0#64
 else if t = 126#8 ∨ t = 124#8 then y == 0#64
 else if t = 112#8 ∨ t = 111#8 then decide (x ≤ 4294967296#64) && y == 0#64
 else t == 123#8
noncomputable def hasS : Ev.Spec := joined fun | [.agg [.u8 t, .u64 x, .u64 y]] => some (.bool (hasF t x y)) | _ => none
theorem low32 (x : BitVec 64) : (x == BitVec.setWidth 64 (BitVec.setWidth 32 x)) = decide (x ≤ 4294967295#64) := by
 rw [Bool.eq_iff_iff]
 simp only [beq_iff_eq, decide_eq_true_eq, BitVec.le_def, BitVec.toNat_ofNat]
 constructor
 ·intro h
  have := congrArg BitVec.toNat h
  simp only [BitVec.toNat_setWidth] at this
  omega
 ·intro h
  apply BitVec.eq_of_toNat_eq
  simp only [BitVec.toNat_setWidth]
  omega
theorem has_nf (t : BitVec 8) (x y : BitVec 64) : ex [] (fun _ => []) Tryz.f14 [.agg [.u8 t, .u64 x, .u64 y]] some =
 if (t == 123#8) = true then some (D.bool true)
 else if (t == 127#8) = true then some (D.bool (t == t && (x == BitVec.setWidth 64 (BitVec.setWidth 32 x) && y == 0#64)))
 else if (t == 125#8) = true then some (D.bool (t == t && (x == BitVec.setWidth 64 (BitVec.setWidth 32 x) && y == 0#64)))
 else if (t == 126#8) = true then some (D.bool (y == 0#64))
 else if (t == 124#8) = true then some (D.bool (y == 0#64))
 else if (t == 112#8) = true then (if (y == 0#64) = true then some (D.bool (decide (x ≤ 4294967296#64))) else some (D.bool false))
 else if (t == 111#8) = true then (if (y == 0#64) = true then some (D.bool (decide (x ≤ 4294967296#64))) else some (D.bool false))
 else some (D.bool false) := by kernel_rfl
theorem t_Has : Snd 14 hasS := by
 refine Sound.join (execFn_sound (ann := fun _ => []) TableOK.nil mixed Tryz.func14 (by kernel_rfl) 50) fun ds d h => ?_
 split at h
 ·rename_i t x y
  cases h
  refine (has_nf t x y).trans ?_
  rw [low32]
  unfold hasF
  simp only [beq_self_eq_true, Bool.true_and, beq_iff_eq]
  by_cases h1 : t = 123#8
  ·subst h1; rfl
  by_cases h2 : t = 127#8
  ·subst h2; rfl
  by_cases h3 : t = 125#8
  ·subst h3; rfl
  by_cases h4 : t = 126#8
  ·subst h4; rfl
  by_cases h5 : t = 124#8
  ·subst h5; rfl
  by_cases h6 : t = 112#8
  ·subst h6
   show (if y = 0#64 then _ else _) = some (D.bool (decide (x ≤ 4294967296#64) && y == 0#64))
   by_cases hy : y = 0#64 <;> simp [hy]
  by_cases h7 : t = 111#8
  ·subst h7
   show (if y = 0#64 then _ else _) = some (D.bool (decide (x ≤ 4294967296#64) && y == 0#64))
   by_cases hy : y = 0#64 <;> simp [hy]
  simp [h1, h2, h3, h4, h5, h6, h7]
 ·cases h
end Go.L23

/-
  Part of the proof; what its functions and lemmas say stands in the text.
-/
import Derived.Test.YtnbafdmlfpmfkaaGreatDoorN23I
import Derived.Test.YtnbafdmlfpmfkaaGreatDoorQ23K
import Derived.Test.YtnbafdmlfpmfkaaGreatDoorV23B
set_option linter.unusedSimpArgs false
set_option linter.unusedVariables false
set_option maxRecDepth 100000
set_option maxHeartbeats 400000
namespace Go.L23
open Go.Ev Go.Proofs Go.RowKit Go.Wh
def lookC : List (List UInt8 × Bool) → List UInt8 → Option Bool
 | [], _ => none
 | q :: l, s => if q.1 == s then some q.2 else lookC l s
theorem lookC_mem : ∀ {l : List (List UInt8 × Bool)} {s : List UInt8} {b : Bool}, lookC l s = some b → (s, b) ∈ l
 | q :: l, s, b, h => by
  unfold lookC at h
  split at h
  ·rename_i e
   cases h
   obtain ⟨q1, q2⟩ := q
   obtain rfl : q1 = s := by simpa using e
   exact List.mem_cons_self
  ·exact List.mem_cons_of_mem _ (lookC_mem h)
noncomputable def conS : Ev.Spec := joined fun | [.c (.string s), .c (.string t)] => if (t.data.toList == high) = true then (lookC (shortT ++ longT.map fun q => (q.1, q.2.1)) s.data.toList).map D.bool else none | _ => none
theorem t_con (m : Int) : Snd1 m 194 conS := by
 refine Sound.of_pt fun ds d hd => ?_
 split at hd
 ·rename_i s t
  split at hd
  ·rename_i ht
   obtain ⟨⟨t⟩⟩ := t
   obtain ⟨⟨s⟩⟩ := s
   have ht' : t = high := by simpa using ht
   subst ht'
   cases hc : lookC (shortT ++ longT.map fun q => (q.1, q.2.1)) s with
   | none => rw [hc] at hd; cases hd
   | some b =>
    rw [hc] at hd
    cases hd
    rcases List.mem_append.1 (lookC_mem hc) with h | h
    ·have h1 := (short_ok m).mem h
     dsimp only at h1
     exact (t_Y194 m).pt h1
    ·obtain ⟨q, hq, e⟩ := List.mem_map.1 h
     obtain ⟨q1, q2, q3⟩ := q
     cases e
     have h1 := (long_ok m).mem hq
     dsimp only at h1
     have h2 : q1.length < 4294967281 := by
      have := List.all_eq_true.1 (show longT.all (fun q => decide (q.1.length < 4294967281)) = true by kernel_rfl) _ hq
      simpa using this
     have h3 : Y194 m [str q1, str high] some = some (.bool q2) := by
      refine h1.trans ?_
      by_cases hm : (6 : Int) ≤ m
      ·rw [if_pos (decide_eq_true hm), decide_eq_true hm, decide_eq_true h2]; rfl
      ·rw [if_neg (by simpa using hm), failT_no hm]
     exact (t_Y194 m).pt h3
  ·cases hd
 ·cases hd
end Go.L23
set_option maxRecDepth 100000
set_option maxHeartbeats 0
namespace Go.L23
open Go.Ev Go.Proofs Go.RowKit Go.Wh
def p32 : Int → Prop := fun m => 0 ≤ m ∧ m < 4294967296
def pU : Int → Prop := fun m => 0 ≤ m ∧ m < 18446744073709551616
def unk (w : Int) : D := if w = 64 then .xi .u64 pU else .xi .u64 p32
def anyV : D := .agg [.xi .u64 pU, .xi .u64 pU]
def wSc (w : Int) : Bool := w == 32 || w == 64
def fw (w : Int) (a : BitVec 64) : Bool := w == 64 || decide (a ≤ maskF w)
def trapG (F : List D → Option (Bool × Bool × D)) : Ev.Spec := fun ds K => match F ds with
 | some (g, b, d) => if g = true then if b = true then K (.tup [.xi .u64 pU, .i .i64 6]) else K d else none
 | none => none
def isDiv (o : BitVec 8) : Bool := o == 4#8 || o == 5#8 || o == 6#8 || o == 7#8
def inTwo (o : BitVec 8) : Bool := decide (1 ≤ o.toNat) && decide (o.toNat ≤ 15)
def gTwo (o : BitVec 8) (w : Int) (a b : BitVec 64) : Bool := wSc w && inTwo o && (fw w a && fw w b)
def inThan (o : BitVec 8) : Bool := decide (32 ≤ o.toNat) && decide (o.toNat ≤ 41)
def gThan (o : BitVec 8) (w : Int) (a b : BitVec 64) : Bool := wSc w && inThan o && (fw w a && fw w b)
def inCnt (o : BitVec 8) : Bool := decide (26 ≤ o.toNat) && decide (o.toNat ≤ 28)
def gOne (o : BitVec 8) (w : Int) (a : BitVec 64) : Bool := wSc w && inCnt o && fw w a
def inFth (o : BitVec 8) : Bool := decide (17 ≤ o.toNat) && decide (o.toNat ≤ 22)
def gFth (o : BitVec 8) (w : Int) (a b : BitVec 64) : Bool := wSc w && inFth o && (fw w a && fw w b)
def inFtw (o : BitVec 8) : Bool := decide (1 ≤ o.toNat) && decide (o.toNat ≤ 7)
def gFtw (o : BitVec 8) (w : Int) (a b : BitVec 64) : Bool := wSc w && inFtw o && (fw w a && fw w b)
def inFon (o : BitVec 8) : Bool := decide (10 ≤ o.toNat) && decide (o.toNat ≤ 16)
def gFon (o : BitVec 8) (w : Int) (a : BitVec 64) : Bool := wSc w && inFon o && fw w a
def gExt (f t : Int) (a : BitVec 64) : Bool := wSc t && okW f && decide (f ≤ t) && fw f a
def gCut (f t : Int) (a : BitVec 64) : Bool := wSc f && wSc t && fw f a
abbrev C2w := BitVec 8 → Int → BitVec 64 → BitVec 64 → Bool
noncomputable def thanLf (C : C2w) : Ev.Spec := guarded fun | [.u8 o, .i .i64 w, .u64 a, .u64 b] => some (gThan o w a b, .tup [.bool (C o w a b), .i .i64 0]) | _ => none
noncomputable def fthanLf (C : C2w) : Ev.Spec := guarded fun | [.u8 o, .i .i64 w, .u64 a, .u64 b] => some (gFth o w a b, .tup [.bool (C o w a b), .i .i64 0]) | _ => none
noncomputable def oneLf : Ev.Spec := guarded fun | [.u8 o, .i .i64 w, .u64 a] => some (gOne o w a, .tup [unk w, .i .i64 0]) | _ => none
noncomputable def foneLf : Ev.Spec := guarded fun | [.u8 o, .i .i64 w, .u64 a] => some (gFon o w a, .tup [unk w, .i .i64 0]) | _ => none
noncomputable def ftwoLf : Ev.Spec := guarded fun | [.u8 o, .i .i64 w, .u64 a, .u64 b] => some (gFtw o w a b, .tup [unk w, .i .i64 0]) | _ => none
noncomputable def twoLf (B : C2w) : Ev.Spec := trapG fun | [.u8 o, .i .i64 w, .u64 a, .u64 b] => some (gTwo o w a b, isDiv o && B o w a b, .tup [unk w, .i .i64 0]) | _ => none
noncomputable def extLf : Ev.Spec := guarded fun | [.i .i64 f, .i .i64 t, .bool _, .u64 a] => some (gExt f t a, .tup [unk t, .i .i64 0]) | _ => none
noncomputable def cutLf (B : Int → Int → Bool → BitVec 64 → Bool) : Ev.Spec := trapG fun | [.i .i64 f, .i .i64 t, .bool s, .u64 a] => some (gCut f t a, B f t s a, .tup [unk t, .i .i64 0]) | _ => none
noncomputable def heldLf : Ev.Spec := guarded fun | [.i .i64 f, .i .i64 t, .bool _, .u64 a] => some (gCut f t a, .tup [unk t, .i .i64 0]) | _ => none
noncomputable def fltLf : Ev.Spec := guarded fun | [.i .i64 f, .i .i64 t, .bool _, .u64 a] => some (gCut f t a, .tup [unk t, .i .i64 0]) | _ => none
noncomputable def demLf : Ev.Spec := joined fun | [.u64 _] => some (.tup [.xi .u64 p32, .i .i64 0]) | _ => none
noncomputable def proLf : Ev.Spec := guarded fun | [.u64 a] => some (fw 32 a, .tup [.xi .u64 pU, .i .i64 0]) | _ => none
noncomputable def ofbLf : Ev.Spec := guarded fun | [.a8 l] => some (l.length == 16, anyV) | _ => none
noncomputable def shuLf : Ev.Spec := guarded fun | [.agg [.u64 _, .u64 _], .agg [.u64 _, .u64 _], .a8 l] => some (l.length == 16 && l.all (fun c => decide (c < 32#8)), .tup [anyV, .i .i64 0]) | _ => none
noncomputable def swzLf : Ev.Spec := joined fun | [.agg [.u64 _, .u64 _], .agg [.u64 _, .u64 _]] => some anyV | _ => none
noncomputable def splLf : Ev.Spec := guarded fun | [.i .i64 w, .u64 n] => some (okW w && fw w n, .tup [anyV, .i .i64 0]) | _ => none
noncomputable def setLf : Ev.Spec := guarded fun | [.agg [.u64 _, .u64 _], .i .i64 w, .i .i64 i, .u64 n] => some (okI w i && fw w n, .tup [anyV, .i .i64 0]) | _ => none
noncomputable def getLf : Ev.Spec := guarded fun | [.agg [.u64 a0, .u64 a1], .i .i64 w, .i .i64 i] => some (okI w i, .tup [.u64 (getF a0 a1 w i), .i .i64 0]) | _ => none
noncomputable def vthanLf : Ev.Spec := guarded fun | [.u8 o, .i .i64 w, .agg [.u64 _, .u64 _], .agg [.u64 _, .u64 _]] => some (okW w && inThan o, .tup [anyV, .i .i64 0]) | _ => none
def inVtwo (o : BitVec 8) (w : Int) : Bool := (o == 1#8 || o == 2#8 || o == 3#8) || decide (16 ≤ o.toNat) && decide (o.toNat ≤ 24) || o == 25#8 && w == 16
noncomputable def vtwoLf : Ev.Spec := guarded fun | [.u8 o, .i .i64 w, .agg [.u64 _, .u64 _], .agg [.u64 _, .u64 _]] => some (okW w && inVtwo o w, .tup [anyV, .i .i64 0]) | _ => none
def inVone (o : BitVec 8) : Bool := o == 28#8 || o == 29#8 || o == 30#8
noncomputable def voneLf : Ev.Spec := guarded fun | [.u8 o, .i .i64 w, .agg [.u64 _, .u64 _]] => some (okW w && inVone o, .tup [anyV, .i .i64 0]) | _ => none
def inVsh (o : BitVec 8) : Bool := o == 11#8 || o == 12#8 || o == 13#8
noncomputable def vshLf : Ev.Spec := guarded fun | [.u8 o, .i .i64 w, .agg [.u64 _, .u64 _], .u64 _] => some (okW w && inVsh o, .tup [anyV, .i .i64 0]) | _ => none
noncomputable def allLf (A : Int → BitVec 64 → BitVec 64 → Bool) : Ev.Spec := guarded fun | [.i .i64 w, .agg [.u64 a0, .u64 a1]] => some (okW w, .tup [.bool (A w a0 a1), .i .i64 0]) | _ => none
noncomputable def maskLf : Ev.Spec := guarded fun | [.i .i64 w, .agg [.u64 _, .u64 _]] => some (okW w, .tup [.xi .u64 p32, .i .i64 0]) | _ => none
def in1632 (w : Int) : Bool := w == 16 || w == 32
def in81632 (w : Int) : Bool := w == 8 || w == 16 || w == 32
noncomputable def narLf : Ev.Spec := guarded fun | [.i .i64 w, .bool _, .agg [.u64 _, .u64 _], .agg [.u64 _, .u64 _]] => some (in1632 w, .tup [anyV, .i .i64 0]) | _ => none
noncomputable def widLf : Ev.Spec := guarded fun | [.i .i64 w, .bool _, .bool _, .agg [.u64 _, .u64 _]] => some (in81632 w, .tup [anyV, .i .i64 0]) | _ => none
noncomputable def timLf : Ev.Spec := guarded fun | [.i .i64 w, .bool _, .bool _, .agg [.u64 _, .u64 _], .agg [.u64 _, .u64 _]] => some (in81632 w, .tup [anyV, .i .i64 0]) | _ => none
noncomputable def prsLf : Ev.Spec := guarded fun | [.i .i64 w, .bool _, .agg [.u64 _, .u64 _]] => some (w == 8 || w == 16, .tup [anyV, .i .i64 0]) | _ => none
noncomputable def dotLf : Ev.Spec := joined fun | [.agg [.u64 _, .u64 _], .agg [.u64 _, .u64 _]] => some (.tup [anyV, .i .i64 0]) | _ => none
noncomputable def vfthLf : Ev.Spec := guarded fun | [.u8 o, .i .i64 w, .agg [.u64 _, .u64 _], .agg [.u64 _, .u64 _]] => some (wSc w && inFth o, .tup [anyV, .i .i64 0]) | _ => none
def inVft (o : BitVec 8) : Bool := decide (1 ≤ o.toNat) && decide (o.toNat ≤ 9)
noncomputable def vftwLf : Ev.Spec := guarded fun | [.u8 o, .i .i64 w, .agg [.u64 _, .u64 _], .agg [.u64 _, .u64 _]] => some (wSc w && inVft o, .tup [anyV, .i .i64 0]) | _ => none
noncomputable def vfonLf : Ev.Spec := guarded fun | [.u8 o, .i .i64 w, .agg [.u64 _, .u64 _]] => some (wSc w && inFon o, .tup [anyV, .i .i64 0]) | _ => none
noncomputable def vfflLf : Ev.Spec := guarded fun | [.i .i64 w, .bool _, .agg [.u64 _, .u64 _]] => some (wSc w, .tup [anyV, .i .i64 0]) | _ => none
noncomputable def vfcuLf : Ev.Spec := guarded fun | [.i .i64 w, .bool _, .agg [.u64 _, .u64 _]] => some (wSc w, .tup [anyV, .i .i64 0]) | _ => none
noncomputable def vdpLf : Ev.Spec := joined fun | [.agg [.u64 _, .u64 _]] => some anyV | _ => none
def inBit (o : BitVec 8) : Bool := decide (1 ≤ o.toNat) && decide (o.toNat ≤ 6)
noncomputable def bitLf : Ev.Spec := guarded fun | [.u8 o, .agg [.u64 _, .u64 _], .agg [.u64 _, .u64 _], .agg [.u64 _, .u64 _]] => some (inBit o, .tup [anyV, .i .i64 0]) | _ => none
noncomputable def truthS : Ev.Spec := joined fun | [.bool _, .i .i64 e] => some (.agg [.xi .u64 p32, .u64 0#64, .i .i64 e]) | _ => none
noncomputable def hasG (H : BitVec 8 → BitVec 64 → BitVec 64 → Bool) : Ev.Spec := joined fun | [.agg [.u8 t, .u64 x, .u64 y]] => some (.bool (H t x y)) | _ => none
structure Lf where
 mx : Int
 thC : C2w
 ftC : C2w
 twB : C2w
 cuB : Int → Int → Bool → BitVec 64 → Bool
 alB : Int → BitVec 64 → BitVec 64 → Bool
 has : BitVec 8 → BitVec 64 → BitVec 64 → Bool
def rightB (H : BitVec 8 → BitVec 64 → BitVec 64 → Bool) : List (BitVec 8) → List D → Bool
 | [], [] => true
 | t :: ts, .u8 u :: .u64 x :: .u64 y :: l => (u == t && H u x y) && rightB H ts l
 | _, _ => false
def okN (n : Nat) : Bool := n == 1 || n == 2 || n == 3
noncomputable def rightLf (H : BitVec 8 → BitVec 64 → BitVec 64 → Bool) : Ev.Spec := guarded fun
 | [.slm 3 n l, .sl8 ts] => some (okN n && (n == ts.length && rightB H ts l), .bool true)
 | [.c (.slice none 0 0), .c (.slice none 0 0)] => some (true, .bool true)
 | _ => none
structure LfOK (L : Lf) : Prop where
 l29 : Snd1 L.mx 29 extLf
 l30 : Snd1 L.mx 30 widLf
 l31 : Snd1 L.mx 31 splLf
 l32 : Snd1 L.mx 32 setLf
 l47 : Snd1 L.mx 47 getLf
 l49 : Snd1 L.mx 49 (rightLf L.has)
 l53 : Snd1 L.mx 53 heldLf
 l101 : Snd1 L.mx 101 vfflLf
 l102 : Snd1 L.mx 102 vfcuLf
 l103 : Snd1 L.mx 103 vftwLf
 l104 : Snd1 L.mx 104 vthanLf
 l105 : Snd1 L.mx 105 vfonLf
 l109 : Snd1 L.mx 109 ofbLf
 l110 : Snd1 L.mx 110 shuLf
 l111 : Snd1 L.mx 111 swzLf
 l113 : Snd1 L.mx 113 vfthLf
 l114 : Snd1 L.mx 114 bitLf
 l115 : Snd1 L.mx 115 truthS
 l117 : Snd1 L.mx 117 vdpLf
 l118 : Snd1 L.mx 118 vdpLf
 l124 : Snd1 L.mx 124 (cutLf L.cuB)
 l125 : Snd1 L.mx 125 fltLf
 l126 : Snd1 L.mx 126 demLf
 l127 : Snd1 L.mx 127 proLf
 l128 : Snd1 L.mx 128 foneLf
 l129 : Snd1 L.mx 129 ftwoLf
 l130 : Snd1 L.mx 130 (thanLf L.thC)
 l131 : Snd1 L.mx 131 (fthanLf L.ftC)
 l132 : Snd1 L.mx 132 oneLf
 l133 : Snd1 L.mx 133 (twoLf L.twB)
 l195 : Snd1 L.mx 195 (allLf L.alB)
 l196 : Snd1 L.mx 196 maskLf
 l198 : Snd1 L.mx 198 narLf
 l199 : Snd1 L.mx 199 timLf
 l200 : Snd1 L.mx 200 prsLf
 l201 : Snd1 L.mx 201 dotLf
 l266 : Snd1 L.mx 266 vtwoLf
 l269 : Snd1 L.mx 269 voneLf
 l271 : Snd1 L.mx 271 vshLf
noncomputable def Y100 : Ev.Spec := ex [] (fun _ => []) Tryz.f100
theorem t_Y100 : Snd 100 Y100 := execFn_sound (ann := (fun _ => [])) TableOK.nil mixed Tryz.func100 (by kernel_rfl) 50
noncomputable def Y106 : Ev.Spec := ex [] (fun _ => []) Tryz.f106
theorem t_Y106 : Snd 106 Y106 := execFn_sound (ann := (fun _ => [])) TableOK.nil mixed Tryz.func106 (by kernel_rfl) 50
noncomputable def Y107 : Ev.Spec := ex [] (fun _ => []) Tryz.f107
theorem t_Y107 : Snd 107 Y107 := execFn_sound (ann := (fun _ => [])) TableOK.nil mixed Tryz.func107 (by kernel_rfl) 50
noncomputable def Y264 : Ev.Spec := ex [] (fun _ => []) Tryz.f264
theorem t_Y264 : Snd 264 Y264 := execFn_sound (ann := (fun _ => [])) TableOK.nil mixed Tryz.func264 (by kernel_rfl) 50
noncomputable def Y197 : Ev.Spec := ex [(264, Y264)] (fun _ => []) Tryz.f197
theorem t_Y197 : Snd 197 Y197 := execFn_sound (ann := (fun _ => [])) (TableOK.cons t_Y264 TableOK.nil) mixed Tryz.func197 (by kernel_rfl) 50
noncomputable def Y267 (L : Lf) : Ev.Spec := ex1 L.mx [(100, Y100), (266, vtwoLf)] (fun _ => []) Tryz.f267
theorem t_Y267 {L : Lf} (h : LfOK L) : Snd1 L.mx 267 (Y267 L) := execFn_sound (ann := (fun _ => [])) (TableOK.cons (lift t_Y100 L.mx) (TableOK.cons h.l266 TableOK.nil)) mixed Tryz.func267 (by kernel_rfl) 50
noncomputable def Y268 (L : Lf) : Ev.Spec := ex1 L.mx [(100, Y100), (269, voneLf)] (fun _ => []) Tryz.f268
theorem t_Y268 {L : Lf} (h : LfOK L) : Snd1 L.mx 268 (Y268 L) := execFn_sound (ann := (fun _ => [])) (TableOK.cons (lift t_Y100 L.mx) (TableOK.cons h.l269 TableOK.nil)) mixed Tryz.func268 (by kernel_rfl) 50
noncomputable def Y270 (L : Lf) : Ev.Spec := ex1 L.mx [(100, Y100), (271, vshLf)] (fun _ => []) Tryz.f270
theorem t_Y270 {L : Lf} (h : LfOK L) : Snd1 L.mx 270 (Y270 L) := execFn_sound (ann := (fun _ => [])) (TableOK.cons (lift t_Y100 L.mx) (TableOK.cons h.l271 TableOK.nil)) mixed Tryz.func270 (by kernel_rfl) 50
noncomputable def Y202 (L : Lf) : Ev.Spec := ex1 L.mx [(267, (Y267 L)), (268, (Y268 L)), (270, (Y270 L))] (fun _ => []) Tryz.f202
theorem t_Y202 {L : Lf} (h : LfOK L) : Snd1 L.mx 202 (Y202 L) := execFn_sound (ann := (fun _ => [])) (TableOK.cons (t_Y267 h) (TableOK.cons (t_Y268 h) (TableOK.cons (t_Y270 h) TableOK.nil))) mixed Tryz.func202 (by kernel_rfl) 50
noncomputable def Y108 (L : Lf) : Ev.Spec := ex1 L.mx [(28, X28), (30, widLf), (52, X52), (70, X70), (100, Y100), (107, Y107), (115, truthS), (194, conS), (195, (allLf L.alB)), (196, maskLf), (197, Y197), (198, narLf), (199, timLf), (200, prsLf), (201, dotLf), (202, (Y202 L))] (fun _ => []) Tryz.f108
theorem t_Y108 {L : Lf} (h : LfOK L) : Snd1 L.mx 108 (Y108 L) := execFn_sound (ann := (fun _ => [])) (TableOK.cons (lift t_X28 L.mx) (TableOK.cons h.l30 (TableOK.cons (lift t_X52 L.mx) (TableOK.cons (lift t_X70 L.mx) (TableOK.cons (lift t_Y100 L.mx) (TableOK.cons (lift t_Y107 L.mx) (TableOK.cons h.l115 (TableOK.cons (t_con L.mx) (TableOK.cons h.l195 (TableOK.cons h.l196 (TableOK.cons (lift t_Y197 L.mx) (TableOK.cons h.l198 (TableOK.cons h.l199 (TableOK.cons h.l200 (TableOK.cons h.l201 (TableOK.cons (t_Y202 h) TableOK.nil)))))))))))))))) mixed Tryz.func108 (by kernel_rfl) 50
noncomputable def Y50 (L : Lf) : Ev.Spec := ex1 L.mx [(100, Y100), (101, vfflLf), (102, vfcuLf), (103, vftwLf), (104, vthanLf), (105, vfonLf), (106, Y106), (107, Y107), (108, (Y108 L))] (fun _ => []) Tryz.f50
theorem t_Y50 {L : Lf} (h : LfOK L) : Snd1 L.mx 50 (Y50 L) := execFn_sound (ann := (fun _ => [])) (TableOK.cons (lift t_Y100 L.mx) (TableOK.cons h.l101 (TableOK.cons h.l102 (TableOK.cons h.l103 (TableOK.cons h.l104 (TableOK.cons h.l105 (TableOK.cons (lift t_Y106 L.mx) (TableOK.cons (lift t_Y107 L.mx) (TableOK.cons (t_Y108 h) TableOK.nil))))))))) mixed Tryz.func50 (by kernel_rfl) 50
noncomputable def Y112 (L : Lf) : Ev.Spec := ex1 L.mx [(28, X28), (29, extLf), (32, setLf), (47, getLf), (52, X52), (100, Y100)] (fun _ => []) Tryz.f112
theorem t_Y112 {L : Lf} (h : LfOK L) : Snd1 L.mx 112 (Y112 L) := execFn_sound (ann := (fun _ => [])) (TableOK.cons (lift t_X28 L.mx) (TableOK.cons h.l29 (TableOK.cons h.l32 (TableOK.cons h.l47 (TableOK.cons (lift t_X52 L.mx) (TableOK.cons (lift t_Y100 L.mx) TableOK.nil)))))) mixed Tryz.func112 (by kernel_rfl) 50
noncomputable def Y116 : Ev.Spec := ex [] (fun _ => []) Tryz.f116
theorem t_Y116 : Snd 116 Y116 := execFn_sound (ann := (fun _ => [])) TableOK.nil mixed Tryz.func116 (by kernel_rfl) 50
noncomputable def Y51 (L : Lf) : Ev.Spec := ex1 L.mx [(31, splLf), (100, Y100), (104, vthanLf), (107, Y107), (109, ofbLf), (110, shuLf), (111, swzLf), (112, (Y112 L)), (113, vfthLf), (114, bitLf), (115, truthS), (116, Y116), (117, vdpLf), (118, vdpLf)] (fun _ => []) Tryz.f51
theorem t_Y51 {L : Lf} (h : LfOK L) : Snd1 L.mx 51 (Y51 L) := execFn_sound (ann := (fun _ => [])) (TableOK.cons h.l31 (TableOK.cons (lift t_Y100 L.mx) (TableOK.cons h.l104 (TableOK.cons (lift t_Y107 L.mx) (TableOK.cons h.l109 (TableOK.cons h.l110 (TableOK.cons h.l111 (TableOK.cons (t_Y112 h) (TableOK.cons h.l113 (TableOK.cons h.l114 (TableOK.cons h.l115 (TableOK.cons (lift t_Y116 L.mx) (TableOK.cons h.l117 (TableOK.cons h.l118 TableOK.nil)))))))))))))) mixed Tryz.func51 (by kernel_rfl) 50
noncomputable def Y123 : Ev.Spec := ex [] (fun _ => []) Tryz.f123
theorem t_Y123 : Snd 123 Y123 := execFn_sound (ann := (fun _ => [])) TableOK.nil mixed Tryz.func123 (by kernel_rfl) 50
noncomputable def Y54 (L : Lf) : Ev.Spec := ex1 L.mx [(29, extLf), (52, X52), (123, Y123), (124, (cutLf L.cuB)), (125, fltLf), (126, demLf), (127, proLf)] (fun _ => []) Tryz.f54
theorem t_Y54 {L : Lf} (h : LfOK L) : Snd1 L.mx 54 (Y54 L) := execFn_sound (ann := (fun _ => [])) (TableOK.cons h.l29 (TableOK.cons (lift t_X52 L.mx) (TableOK.cons (lift t_Y123 L.mx) (TableOK.cons h.l124 (TableOK.cons h.l125 (TableOK.cons h.l126 (TableOK.cons h.l127 TableOK.nil))))))) mixed Tryz.func54 (by kernel_rfl) 50
noncomputable def Y55 (L : Lf) : Ev.Spec := ex1 L.mx [(52, X52), (128, foneLf), (129, ftwoLf)] (fun _ => []) Tryz.f55
theorem t_Y55 {L : Lf} (h : LfOK L) : Snd1 L.mx 55 (Y55 L) := execFn_sound (ann := (fun _ => [])) (TableOK.cons (lift t_X52 L.mx) (TableOK.cons h.l128 (TableOK.cons h.l129 TableOK.nil))) mixed Tryz.func55 (by kernel_rfl) 50
noncomputable def Y56 (L : Lf) : Ev.Spec := ex1 L.mx [(52, X52), (115, truthS), (130, (thanLf L.thC)), (131, (fthanLf L.ftC)), (132, oneLf), (133, (twoLf L.twB))] (fun _ => []) Tryz.f56
theorem t_Y56 {L : Lf} (h : LfOK L) : Snd1 L.mx 56 (Y56 L) := execFn_sound (ann := (fun _ => [])) (TableOK.cons (lift t_X52 L.mx) (TableOK.cons h.l115 (TableOK.cons h.l130 (TableOK.cons h.l131 (TableOK.cons h.l132 (TableOK.cons h.l133 TableOK.nil)))))) mixed Tryz.func56 (by kernel_rfl) 50
def bnn16 : Nat → List Nat := fun | 6 => [2, 4, 6, 8, 42, 43, 44] | _ => []
noncomputable def Y16 (L : Lf) : Ev.Spec := ex1 L.mx [(18, ofS), (22, X22), (48, X48), (49, (rightLf L.has)), (50, (Y50 L)), (51, (Y51 L)), (52, X52), (53, heldLf), (54, (Y54 L)), (55, (Y55 L)), (56, (Y56 L))] bnn16 Tryz.f16
theorem t_Y16 {L : Lf} (h : LfOK L) : Snd1 L.mx 16 (Y16 L) := execFn_sound (ann := bnn16) (TableOK.cons (lift t_of L.mx) (TableOK.cons (lift t_X22 L.mx) (TableOK.cons (lift t_X48 L.mx) (TableOK.cons h.l49 (TableOK.cons (t_Y50 h) (TableOK.cons (t_Y51 h) (TableOK.cons (lift t_X52 L.mx) (TableOK.cons h.l53 (TableOK.cons (t_Y54 h) (TableOK.cons (t_Y55 h) (TableOK.cons (t_Y56 h) TableOK.nil))))))))))) mixed Tryz.func16 (by kernel_rfl) 50
end Go.L23
set_option maxRecDepth 100000
set_option maxHeartbeats 0
namespace Go.L23
open Go.Ev Go.Proofs Go.RowKit Go.Wh
def ins (o : BitVec 16) (b : BitVec 32) (n : BitVec 64) (v : List (BitVec 8)) : D := .agg ([.u16 o, .u32 0#32, .u32 b, .u64 n] ++ v.map D.u8 ++ [.c (.slice none 0 0), .c (.slice none 0 0), .u8 0#8, .u8 0#8, .u32 0#32, .c (.slice none 0 0), .c (.slice none 0 0)])
abbrev z16 : List (BitVec 8) := [0#8, 0#8, 0#8, 0#8, 0#8, 0#8, 0#8, 0#8, 0#8, 0#8, 0#8, 0#8, 0#8, 0#8, 0#8, 0#8]
def gd (b : Bool) (x : Option D) : Option D := if b = true then x else none
def argF (t : BitVec 8) (x : BitVec 64) : BitVec 64 := if (t == 127#8 || t == 125#8) = true then x &&& 4294967295#64 else x
def hiF (t : BitVec 8) (y : BitVec 64) : BitVec 64 := if (t == 123#8) = true then y else 0#64
def wantF : List (BitVec 8) → (Nat → BitVec 64) → (Nat → BitVec 64) → Nat → List D
 | [], _, _, _ => []
 | t :: ts, X, Y, i => .u8 t :: .u64 (argF t (X i)) :: .u64 (hiF t (Y i)) :: wantF ts X Y (i + 1)
def argsD (ts : List (BitVec 8)) (X Y : Nat → BitVec 64) : D := match ts with
 | [] => .c (.slice none 0 0)
 | _ :: _ => .slm 3 ts.length (wantF ts X Y 0)
def A0 (ts : List (BitVec 8)) (X : Nat → BitVec 64) (i : Nat) : BitVec 64 := argF (ts.getD i 0#8) (X i)
def valD (t : BitVec 8) : D := if (t == 123#8) = true then .agg [.u8 t, .xi .u64 pU, .xi .u64 pU] else if (t == 127#8 || t == 125#8) = true then .agg [.u8 t, .xi .u64 p32, .u64 0#64] else .agg [.u8 t, .xi .u64 pU, .u64 0#64]
def okR (t : BitVec 8) : D := .tup [valD t, .i .i64 0]
def noV : D := .agg [.u8 0#8, .u64 0#64, .u64 0#64]
def trapR : D := .tup [noV, .i .i64 6]
def okE (t : BitVec 8) (e : BitVec 64) : D := .tup [.agg [.u8 t, .u64 e, .u64 0#64], .i .i64 0]
def errR : D := .tup [noV, .i .i64 2]
inductive Kd where
 | no
 | than (o : BitVec 8) (w : Int)
 | fth (o : BitVec 8) (w : Int)
 | one (o : BitVec 8) (w : Int)
 | fon (o : BitVec 8) (w : Int)
 | two (o : BitVec 8) (w : Int)
 | ftw (o : BitVec 8) (w : Int)
 | ext (f t : Int)
 | low (f t : Int) (m : BitVec 64)
 | cut (f t : Int)
 | pro
 | spl (w : Int) (m : BitVec 64)
 | exl (w i : Int)
 | set (w i : Int) (m : BitVec 64)
def guardK (k : Kd) (ts : List (BitVec 8)) (X Y : Nat → BitVec 64) : Bool := match k with
 | .no => true
 | .than o w => gThan o w (A0 ts X 0) (A0 ts X 1)
 | .fth o w => gFth o w (A0 ts X 0) (A0 ts X 1)
 | .one o w => gOne o w (A0 ts X 0)
 | .fon o w => gFon o w (A0 ts X 0)
 | .two o w => gTwo o w (A0 ts X 0) (A0 ts X 1)
 | .ftw o w => gFtw o w (A0 ts X 0) (A0 ts X 1)
 | .ext f t => gExt f t (A0 ts X 0)
 | .low f t m => gExt f t (A0 ts X 0 &&& m)
 | .cut f t => gCut f t (A0 ts X 0)
 | .pro => fw 32 (A0 ts X 0)
 | .spl w m => okW w && fw w (A0 ts X 0 &&& m)
 | .exl w i => gExt w 32 (getF (X 0) (Y 0) w i)
 | .set w i m => okI w i && fw w (A0 ts X 1 &&& m)
inductive Vd where
 | id (m : BitVec 64)
 | as
 | get (w i : Int)
def valK (k : Vd) (ts : List (BitVec 8)) (X Y : Nat → BitVec 64) : BitVec 64 := match k with
 | .id m => X 0 &&& m
 | .as => A0 ts X 0
 | .get w i => getF (X 0) (Y 0) w i
def hasB (L : Lf) (ts : List (BitVec 8)) (X Y : Nat → BitVec 64) : Bool := okN ts.length && (ts.length == ts.length && rightB L.has ts (wantF ts X Y 0))
structure RowK where
 n : Nat
 b : BitVec 32
 fr : List (BitVec 8)
 t : BitVec 8
 k : Kd
inductive Td where
 | div (o : BitVec 8) (w : Int)
 | cut (f t : Int) (s : Bool)
structure RowV where
 n : Nat
 b : BitVec 32
 fr : List (BitVec 8)
 t : BitVec 8
 k : Vd
structure RowT where
 n : Nat
 fr : List (BitVec 8)
 t : BitVec 8
 k : Td
def kdT : Td → Kd
 | .div o w => .two o w
 | .cut f t _ => .cut f t
def trapB (L : Lf) (k : Td) (ts : List (BitVec 8)) (X : Nat → BitVec 64) : Bool := match k with
 | .div o w => isDiv o && L.twB o w (A0 ts X 0) (A0 ts X 1)
 | .cut f t s => L.cuB f t s (A0 ts X 0)
noncomputable abbrev Xdo (L : Lf) (n : Nat) (b : BitVec 32) (N : BitVec 64) (v : List (BitVec 8)) (ts : List (BitVec 8)) (X Y : Nat → BitVec 64) : Option D := Y16 L [ins (BitVec.ofNat 16 n) b N v, argsD ts X Y] some
def RowOK (L : Lf) (X Y : Nat → BitVec 64) (r : RowK) : Prop := Xdo L r.n r.b 0#64 z16 r.fr X Y = gd (hasB L r.fr X Y) (gd (guardK r.k r.fr X Y) (some (okR r.t)))
def RowVOK (L : Lf) (X Y : Nat → BitVec 64) (r : RowV) : Prop := Xdo L r.n r.b 0#64 z16 r.fr X Y = gd (hasB L r.fr X Y) (some (okE r.t (valK r.k r.fr X Y)))
def RowTOK (L : Lf) (X Y : Nat → BitVec 64) (r : RowT) : Prop := Xdo L r.n 0#32 0#64 z16 r.fr X Y = gd (hasB L r.fr X Y) (gd (guardK (kdT r.k) r.fr X Y) (if trapB L r.k r.fr X = true then some trapR else some (okR r.t)))
end Go.L23

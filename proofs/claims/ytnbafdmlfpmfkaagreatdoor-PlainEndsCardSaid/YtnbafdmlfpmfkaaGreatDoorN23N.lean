/-
  Part of the proof; what its functions and lemmas say stands in the text.
-/
import Derived.Test.YtnbafdmlfpmfkaaGreatDoorN23A
import Derived.Test.YtnbafdmlfpmfkaaGreatDoorS23w
import Derived.Test.YtnbafdmlfpmfkaaGreatDoorN23bd
import Derived.Test.YtnbafdmlfpmfkaaGreatDoorN23C
import Derived.Test.YtnbafdmlfpmfkaaGreatDoorEvE
set_option linter.unusedSimpArgs false
set_option linter.unusedVariables false
set_option maxRecDepth 100000
set_option maxHeartbeats 0
namespace Go.L23
open Go.Ev Go.Proofs Go.RowKit Go.Wh
def cnn6 : Nat → List Nat := fun | 11 => [0, 1, 3, 4, 7, 11, 12, 15, 16] | _ => []
noncomputable def infoC (o : BitVec 16) (d : D) : Ev.Spec := guarded fun | [.u16 x] => some (x == o, d) | _ => none
noncomputable def doG (g : D → D → Bool) (d : D) : Ev.Spec := guarded fun | [x, y] => some (g x y, d) | _ => none
noncomputable def allP32 (p : Int → Prop) : Bool := @decide (∀ n, p n → p32 n) (Classical.propDecidable _)
noncomputable def hasW : Ev.Spec := guarded fun
 | [.agg [.u8 t, .xi .u64 p, .u64 y]] => if (t == 127#8 || t == 125#8) = true then some (y == 0#64 && allP32 p, .bool true) else if (t == 126#8 || t == 124#8) = true then some (y == 0#64, .bool true) else none
 | [.agg [.u8 t, .xi .u64 _, .xi .u64 _]] => some (t == 123#8, .bool true)
 | _ => none
def infD (o : BitVec 16) (nm : List UInt8) (im : BitVec 8) (f : List (BitVec 8)) (t : BitVec 8) (b : Int) : D := .tup [.agg [.u16 o, str nm, .u8 im, (match f with | [] => .c (.slice none 0 0) | _ :: _ => .sl8 f), .sl8 [t], .i .i64 b, .bool true], .i .i64 0]
def tyL (f : List (BitVec 8)) : D := match f with | [] => .c (.slice none 0 0) | _ :: _ => .sl8 f
noncomputable abbrev Xlaw (G : List (Nat × SV)) (o : BitVec 16) (i : D) (h : D → D → Bool) (A : D) (g : D → D → Bool) (d : D) (l : BitVec 8) (bs : List (BitVec 8)) (n : BitVec 32) (v : Value) : Option D :=
 execFn Tryz.prog G (tabOf [(18, infoC o i), (19, doG h A), (16, doG g d), (14, hasW), (12, worksS)]) cnn6 Tryz.f6 50 [.u16 o, .u8 l, .a8 bs, .u32 n, .c v] some
def immB (imm : Nat) (l : BitVec 8) : BitVec 32 := if imm = 18 then BitVec.setWidth 32 (l % 2#8) else 0#32
def immN (imm : Nat) (n : BitVec 32) : BitVec 64 := if imm = 20 ∨ imm = 21 ∨ imm = 22 ∨ imm = 23 then BitVec.setWidth 64 n else 0#64
def immV (imm : Nat) (bs : List (BitVec 8)) : List (BitVec 8) := if imm = 19 then bs.map (· % 32#8) else if imm = 24 then bs else z16
noncomputable def finT (t : BitVec 8) : Option D := if (t == 127#8 || t == 125#8) = true then gd (0#64 == 0#64 && allP32 p32) (some (.bool true)) else some (.bool true)
def NF (fr : List (BitVec 8)) (t : BitVec 8) (imm : Nat) (d : D) (fin : Option D) (o : BitVec 16) : Prop :=
 ∀ (G : List (Nat × SV)) (h g : D → D → Bool) (nm : List UInt8) (bi : Int) (X Y : Nat → BitVec 64) (l : BitVec 8) (b0 b1 b2 b3 b4 b5 b6 b7 b8 b9 b10 b11 b12 b13 b14 b15 : BitVec 8) (n : BitVec 32) (v : Value),
  Xlaw G o (infD o nm (BitVec.ofNat 8 imm) fr t bi) h (argsD fr X Y) g d l [b0, b1, b2, b3, b4, b5, b6, b7, b8, b9, b10, b11, b12, b13, b14, b15] n v = gd (o == o) (gd (h (tyL fr) (.c v)) (gd (g (ins o (immB imm l) (immN imm n) (immV imm [b0, b1, b2, b3, b4, b5, b6, b7, b8, b9, b10, b11, b12, b13, b14, b15])) (argsD fr X Y)) fin))
abbrev Cmb := List (BitVec 8) × BitVec 8 × Nat
def combosL : List Cmb := [([], 124#8, 23), ([], 125#8, 22), ([], 127#8, 20), ([], 126#8, 21), ([], 123#8, 24), ([124#8], 124#8, 0), ([124#8], 125#8, 0), ([124#8], 127#8, 0), ([124#8], 126#8, 0), ([124#8], 123#8, 0), ([124#8, 124#8], 124#8, 0), ([124#8, 124#8], 127#8, 0), ([125#8], 124#8, 0), ([125#8], 125#8, 0), ([125#8], 127#8, 0), ([125#8], 126#8, 0), ([125#8], 123#8, 0), ([125#8, 125#8], 125#8, 0), ([125#8, 125#8], 127#8, 0), ([127#8], 124#8, 0), ([127#8], 125#8, 0), ([127#8], 127#8, 0), ([127#8], 126#8, 0), ([127#8], 123#8, 0), ([127#8, 127#8], 127#8, 0), ([126#8], 124#8, 0), ([126#8], 125#8, 0), ([126#8], 127#8, 0), ([126#8], 126#8, 0), ([126#8], 123#8, 0), ([126#8, 126#8], 127#8, 0), ([126#8, 126#8], 126#8, 0), ([123#8], 124#8, 18), ([123#8], 125#8, 18), ([123#8], 127#8, 0), ([123#8], 127#8, 18), ([123#8], 126#8, 18), ([123#8], 123#8, 0), ([123#8, 124#8], 123#8, 18), ([123#8, 125#8], 123#8, 18), ([123#8, 127#8], 123#8, 0), ([123#8, 127#8], 123#8, 18), ([123#8, 126#8], 123#8, 18), ([123#8, 123#8], 123#8, 0), ([123#8, 123#8], 123#8, 19), ([123#8, 123#8, 123#8], 123#8, 0)]
theorem combos_ok (o : BitVec 16) : AllP (fun c : Cmb => NF c.1 c.2.1 c.2.2 (okR c.2.1) (finT c.2.1) o) combosL := by
 refine AllP.cons ?_ (AllP.cons ?_ (AllP.cons ?_ (AllP.cons ?_ (AllP.cons ?_ (AllP.cons ?_ (AllP.cons ?_ (AllP.cons ?_ (AllP.cons ?_ (AllP.cons ?_ (AllP.cons ?_ (AllP.cons ?_ (AllP.cons ?_ (AllP.cons ?_ (AllP.cons ?_ (AllP.cons ?_ (AllP.cons ?_ (AllP.cons ?_ (AllP.cons ?_ (AllP.cons ?_ (AllP.cons ?_ (AllP.cons ?_ (AllP.cons ?_ (AllP.cons ?_ (AllP.cons ?_ (AllP.cons ?_ (AllP.cons ?_ (AllP.cons ?_ (AllP.cons ?_ (AllP.cons ?_ (AllP.cons ?_ (AllP.cons ?_ (AllP.cons ?_ (AllP.cons ?_ (AllP.cons ?_ (AllP.cons ?_ (AllP.cons ?_ (AllP.cons ?_ (AllP.cons ?_ (AllP.cons ?_ (AllP.cons ?_ (AllP.cons ?_ (AllP.cons ?_ (AllP.cons ?_ (AllP.cons ?_ (AllP.cons ?_ (AllP.nil)))))))))))))))))))))))))))))))))))))))))))))) <;> (unfold NF; intros; as_aux_lemma => kernel_rfl)
end Go.L23
set_option maxRecDepth 100000
set_option maxHeartbeats 0
namespace Go.L23
open Go.Ev Go.Proofs Go.RowKit Go.Wh
theorem nfT : AllP (fun r : RowT => NF r.fr r.t 0 trapR (some (.bool true)) (BitVec.ofNat 16 r.n)) rowsT := by
 refine AllP.cons ?_ (AllP.cons ?_ (AllP.cons ?_ (AllP.cons ?_ (AllP.cons ?_ (AllP.cons ?_ (AllP.cons ?_ (AllP.cons ?_ (AllP.cons ?_ (AllP.cons ?_ (AllP.cons ?_ (AllP.cons ?_ (AllP.cons ?_ (AllP.cons ?_ (AllP.cons ?_ (AllP.cons ?_ (AllP.nil)))))))))))))))) <;> (unfold NF; intros; as_aux_lemma => kernel_rfl)
end Go.L23
set_option maxRecDepth 100000
namespace Go.L23
open Go.Ev Go.Proofs Go.RowKit Go.Wh
theorem Sound.more {P : Program} {G G' : List (Nat × SV)} {f : FuncId} {s : Ev.Spec} (h : Sound P G f s) (hG : ∀ w, Glob G' w → Glob G w) : Sound P G' f s := fun ds K r hK => by
 obtain ⟨d, h1, h2⟩ := h ds K r hK
 exact ⟨d, h1, fun w args hg hl => h2 w args (hG w hg) hl⟩
theorem Pt.more {P : Program} {G G' : List (Nat × SV)} {f : FuncId} {ds : List D} {d : D} (h : Pt P G f ds d) (hG : ∀ w, Glob G' w → Glob G w) : Pt P G' f ds d := fun w args hg hl => h w args (hG w hg) hl
theorem allP32_ok : allP32 p32 = true := @decide_eq_true _ (Classical.propDecidable _) fun _ h => h
theorem finT_ok (t : BitVec 8) : finT t = some (.bool true) := by
 unfold finT
 rw [allP32_ok]
 split <;> rfl
theorem t_doG {G : List (Nat × SV)} {f : Nat} {x0 y0 d : D} (hp : Pt Tryz.prog G f [x0, y0] d) : Sound Tryz.prog G f (doG (fun x y => @decide (x = x0 ∧ y = y0) (Classical.propDecidable _)) d) := Sound.of_ptG fun ds d' h => by
 split at h
 ·rename_i x y
  simp only [Option.some.injEq, Prod.mk.injEq] at h
  obtain ⟨h1, rfl⟩ := h
  have h2 := @of_decide_eq_true _ (Classical.propDecidable _) h1
  obtain ⟨rfl, rfl⟩ := h2
  exact hp
 ·cases h
theorem t_infoC {o : BitVec 16} {d : D} (e : infF o.toNat = d) : Snd 18 (infoC o d) := Sound.weakG t_of fun ds d' h => by
 split at h
 ·rename_i x
  simp only [Option.some.injEq, Prod.mk.injEq, beq_iff_eq] at h
  obtain ⟨rfl, rfl⟩ := h
  exact ⟨_, rfl, by rw [e]; exact Wk.refl _⟩
 ·cases h
theorem has_64 (t : BitVec 8) (ht : t = 126#8 ∨ t = 124#8) (p : Int → Prop) (y : BitVec 64) : ex [] (fun _ => []) Tryz.f14 [.agg [.u8 t, .xi .u64 p, .u64 y]] some = some (.bool (y == 0#64)) := by
 rcases ht with rfl | rfl
 ·kernel_rfl
 ·kernel_rfl
theorem has_v (p q : Int → Prop) : ex [] (fun _ => []) Tryz.f14 [.agg [.u8 123#8, .xi .u64 p, .xi .u64 q]] some = some (.bool true) := by kernel_rfl
theorem p32_bv {n : Int} (h : p32 n) : ∃ x : BitVec 64, n = (x.toNat : Int) ∧ x ≤ 4294967295#64 := by
 obtain ⟨x, rfl⟩ := of_pU (n := n) ⟨h.1, by have := h.2; omega⟩
 refine ⟨x, rfl, ?_⟩
 rw [BitVec.le_def]
 have := h.2
 have e : (4294967295#64).toNat = 4294967295 := rfl
 omega
theorem t_hasW : Snd 14 hasW := Sound.of_ptG fun ds d' h => by
 have S := execFn_sound (P := Tryz.prog) (G := G0) (sp := tabOf []) (ann := fun _ => []) TableOK.nil mixed Tryz.func14 (by kernel_rfl) 50
 split at h
 ·rename_i t p y
  split at h
  ·rename_i ht
   simp only [Option.some.injEq, Prod.mk.injEq, Bool.and_eq_true, beq_iff_eq] at h
   obtain ⟨⟨rfl, hp⟩, rfl⟩ := h
   have hp' := @of_decide_eq_true _ (Classical.propDecidable _) hp
   intro w args hG hl
   simp only [lie, lies] at hl
   obtain ⟨v, t1, rfl, ⟨cs, rfl, v1, t2, rfl, rfl, v2, t3, rfl, ⟨n, rfl, hn⟩, v3, t4, rfl, rfl, rfl⟩, rfl⟩ := hl
   obtain ⟨x, rfl, hx⟩ := p32_bv (hp' n hn)
   have hp4 : Pt Tryz.prog G0 14 [.agg [.u8 t, .u64 x, .u64 0#64]] (.bool true) := by
    have h5 := t_Has.pt (ds := [.agg [.u8 t, .u64 x, .u64 0#64]]) (d := .bool (hasF t x 0#64)) rfl
    have h6 : hasF t x 0#64 = true := by
     simp only [Bool.or_eq_true, beq_iff_eq] at ht
     simp [hasF, ht, hx]
    rw [h6] at h5
    exact h5
   exact hp4 w _ hG (by simp only [lie, lies]; exact ⟨_, _, rfl, ⟨_, rfl, _, _, rfl, rfl, _, _, rfl, rfl, _, _, rfl, rfl, rfl⟩, rfl⟩)
  ·split at h
   ·rename_i ht
    simp only [Option.some.injEq, Prod.mk.injEq, beq_iff_eq] at h
    obtain ⟨rfl, rfl⟩ := h
    simp only [Bool.or_eq_true, beq_iff_eq] at ht
    exact S.pt (has_64 t ht p 0#64)
   ·cases h
 ·rename_i t p q
  simp only [Option.some.injEq, Prod.mk.injEq, beq_iff_eq] at h
  obtain ⟨rfl, rfl⟩ := h
  exact S.pt (has_v p q)
 ·cases h
theorem law_pt {m : Int} {G : List (Nat × SV)} (hG : ∀ w, Glob G w → Glob (G1 m) w) {o : BitVec 16} {fr : List (BitVec 8)} {t : BitVec 8} {imm : Nat} {d : D} {fin : Option D} (nf : NF fr t imm d fin o) (hf : fin = some (.bool true)) {nm : List UInt8} {bi : Int} (hi : infF o.toNat = infD o nm (BitVec.ofNat 8 imm) fr t bi)
  {X Y : Nat → BitVec 64} {v : Value} (hw : Pt Tryz.prog G 19 [tyL fr, .c v] (argsD fr X Y)) (l : BitVec 8) (b0 b1 b2 b3 b4 b5 b6 b7 b8 b9 b10 b11 b12 b13 b14 b15 : BitVec 8) (n : BitVec 32) (hd : Pt Tryz.prog (G1 m) 16 [ins o (immB imm l) (immN imm n) (immV imm [b0, b1, b2, b3, b4, b5, b6, b7, b8, b9, b10, b11, b12, b13, b14, b15]), argsD fr X Y] d) :
  Pt Tryz.prog G 6 [.u16 o, .u8 l, .a8 [b0, b1, b2, b3, b4, b5, b6, b7, b8, b9, b10, b11, b12, b13, b14, b15], .u32 n, .c v] (.bool true) := by
 have g0 : ∀ w, Glob G w → Glob G0 w := fun w h => glob1 (hG w h)
 have key := nf G (fun x y => @decide (x = tyL fr ∧ y = .c v) (Classical.propDecidable _)) (fun x y => @decide (x = ins o (immB imm l) (immN imm n) (immV imm [b0, b1, b2, b3, b4, b5, b6, b7, b8, b9, b10, b11, b12, b13, b14, b15]) ∧ y = argsD fr X Y) (Classical.propDecidable _)) nm bi X Y l b0 b1 b2 b3 b4 b5 b6 b7 b8 b9 b10 b11 b12 b13 b14 b15 n v
 rw [beq_self_eq_true, @decide_eq_true _ (Classical.propDecidable _) (show tyL fr = tyL fr ∧ D.c v = .c v from ⟨rfl, rfl⟩), @decide_eq_true _ (Classical.propDecidable _) (show ins o (immB imm l) (immN imm n) (immV imm [b0, b1, b2, b3, b4, b5, b6, b7, b8, b9, b10, b11, b12, b13, b14, b15]) = ins o (immB imm l) (immN imm n) (immV imm [b0, b1, b2, b3, b4, b5, b6, b7, b8, b9, b10, b11, b12, b13, b14, b15]) ∧ argsD fr X Y = argsD fr X Y from ⟨rfl, rfl⟩), hf] at key
 exact (execFn_sound (P := Tryz.prog) (G := G) (ann := cnn6) (TableOK.cons (Sound.more (t_infoC hi) g0) (TableOK.cons (t_doG hw) (TableOK.cons (t_doG (Pt.more hd hG)) (TableOK.cons (Sound.more t_hasW g0) (TableOK.cons (Sound.more t_works g0) TableOK.nil))))) mixed Tryz.func6 (by kernel_rfl) 50).pt key
end Go.L23
set_option maxRecDepth 100000
set_option maxHeartbeats 0
namespace Go.L23
open Go.Ev Go.Proofs Go.RowKit Go.Wh
def wnn19 : Nat → List Nat := fun | 3 => [0, 1, 5, 6] | _ => []
noncomputable def W19 : Ev.Spec := ex [] wnn19 Tryz.f19
theorem t_W19 : Snd 19 W19 := execFn_sound (ann := wnn19) TableOK.nil mixed Tryz.func19 (by kernel_rfl) 50
def zz : Nat → BitVec 64 := fun _ => 0#64
def upto (n : Nat) (x : Nat → BitVec 64) : Nat → BitVec 64 := fun i => if i < n then x i else 0#64
def wTree (n : Nat) (x y : Nat → BitVec 64) : List (BitVec 8) → Nat → (List D → Option D) → Option D
 | [], _, K => K []
 | t :: ts, i, K => if decide ((i : Int) < (n : Int)) = true then if 0 ≤ (i : Int) ∧ (i : Int) < (n : Int) then wTree n x y ts (i + 1) (fun r => K (.u8 t :: .u64 (argF t (x i)) :: .u64 (hiF t (y i)) :: r)) else none
  else wTree n x y ts (i + 1) (fun r => K (.u8 t :: .u64 (argF t 0#64) :: .u64 (hiF t 0#64) :: r))
theorem wTree_ok {n : Nat} (x y : Nat → BitVec 64) : ∀ (ts : List (BitVec 8)) (i : Nat) (K : List D → Option D), i + ts.length ≤ n → wTree n x y ts i K = K (wantF ts x y i)
 | [], _, _, _ => rfl
 | t :: ts, i, K, h => by
  simp only [List.length_cons] at h
  have h1 : (i : Int) < (n : Int) := by omega
  unfold wTree
  rw [if_pos (decide_eq_true h1), if_pos ⟨by omega, h1⟩, wTree_ok x y ts (i + 1) _ (by omega)]
  rfl
def frsL : List (List (BitVec 8)) := [[124#8], [125#8], [127#8], [126#8], [123#8], [124#8, 124#8], [125#8, 125#8], [127#8, 127#8], [126#8, 126#8], [123#8, 124#8], [123#8, 125#8], [123#8, 127#8], [123#8, 126#8], [123#8, 123#8], [123#8, 123#8, 123#8]]
def frs2 : List (List (BitVec 8)) := [[124#8, 124#8], [125#8, 125#8], [127#8, 127#8], [126#8, 126#8], [123#8, 124#8], [123#8, 125#8], [123#8, 127#8], [123#8, 126#8], [123#8, 123#8], [123#8, 123#8, 123#8]]
def frs3 : List (List (BitVec 8)) := [[123#8, 123#8, 123#8]]
theorem want_nil : AllP (fun fr : List (BitVec 8) => W19 [tyL fr, .c (.slice none 0 0)] some = some (argsD fr zz zz)) frsL := by
 refine AllP.cons ?_ (AllP.cons ?_ (AllP.cons ?_ (AllP.cons ?_ (AllP.cons ?_ (AllP.cons ?_ (AllP.cons ?_ (AllP.cons ?_ (AllP.cons ?_ (AllP.cons ?_ (AllP.cons ?_ (AllP.cons ?_ (AllP.cons ?_ (AllP.cons ?_ (AllP.cons ?_ (AllP.nil))))))))))))))) <;> (as_aux_lemma => kernel_rfl)
theorem want_emp (a : Addr) : AllP (fun fr : List (BitVec 8) => W19 [tyL fr, .c (.slice (some a) 0 0)] some = some (argsD fr zz zz)) frsL := by
 refine AllP.cons ?_ (AllP.cons ?_ (AllP.cons ?_ (AllP.cons ?_ (AllP.cons ?_ (AllP.cons ?_ (AllP.cons ?_ (AllP.cons ?_ (AllP.cons ?_ (AllP.cons ?_ (AllP.cons ?_ (AllP.cons ?_ (AllP.cons ?_ (AllP.cons ?_ (AllP.cons ?_ (AllP.nil))))))))))))))) <;> (as_aux_lemma => kernel_rfl)
theorem want_1 (x y : Nat → BitVec 64) : AllP (fun fr : List (BitVec 8) => W19 [tyL fr, .slm 2 1 (pairD x y 0 1)] some = some (argsD fr (upto 1 x) (upto 1 y))) frs2 := by
 refine AllP.cons ?_ (AllP.cons ?_ (AllP.cons ?_ (AllP.cons ?_ (AllP.cons ?_ (AllP.cons ?_ (AllP.cons ?_ (AllP.cons ?_ (AllP.cons ?_ (AllP.cons ?_ (AllP.nil)))))))))) <;> (as_aux_lemma => kernel_rfl)
theorem want_2 (x y : Nat → BitVec 64) : AllP (fun fr : List (BitVec 8) => W19 [tyL fr, .slm 2 2 (pairD x y 0 2)] some = some (argsD fr (upto 2 x) (upto 2 y))) frs3 := by
 refine AllP.cons ?_ (AllP.nil) <;> (as_aux_lemma => kernel_rfl)
theorem want_n (n : Nat) (x y : Nat → BitVec 64) : AllP (fun fr : List (BitVec 8) => W19 [tyL fr, .slm 2 n (pairD x y 0 fr.length)] some = wTree n x y fr 0 (fun r => some (.slm 3 fr.length r))) frsL := by
 refine AllP.cons ?_ (AllP.cons ?_ (AllP.cons ?_ (AllP.cons ?_ (AllP.cons ?_ (AllP.cons ?_ (AllP.cons ?_ (AllP.cons ?_ (AllP.cons ?_ (AllP.cons ?_ (AllP.cons ?_ (AllP.cons ?_ (AllP.cons ?_ (AllP.cons ?_ (AllP.cons ?_ (AllP.nil))))))))))))))) <;> (as_aux_lemma => kernel_rfl)
end Go.L23
set_option maxRecDepth 100000
namespace Go.L23
open Go.Ev Go.Proofs Go.RowKit Go.Wh
def pairS (x y : Nat → BitVec 64) : Nat → Nat → List SV
 | _, 0 => []
 | i, k + 1 => .u64 (x i) :: .u64 (y i) :: pairS x y (i + 1) k
theorem pairS_len (x y : Nat → BitVec 64) : ∀ (k i : Nat), (pairS x y i k).length = 2 * k
 | 0, _ => rfl
 | k + 1, i => by simp only [pairS, List.length_cons, pairS_len x y k (i + 1)]; omega
theorem pair_cells {w : World} {b : Nat} {x y : Nat → BitVec 64} : ∀ (k i o : Nat), lieAt none w b o (pairD x y i k) → ∀ j, j < 2 * k → ∃ u, w.cell? ⟨b, o + j, none⟩ = some u ∧ rep [] ((pairS x y i k).getD j .any) u
 | 0, _, _, _, j, hj => by omega
 | k + 1, i, o, h, j, hj => by
  simp only [pairD, lieAt, lies] at h
  obtain ⟨⟨u1, h1, rfl⟩, ⟨u2, h2, rfl⟩, h3⟩ := h
  match j with
  | 0 => exact ⟨_, h1, by simp only [pairS, List.getD_cons_zero, rep]⟩
  | 1 => exact ⟨_, h2, by simp only [pairS, List.getD_cons_succ, List.getD_cons_zero, rep]⟩
  | j + 2 =>
   obtain ⟨u, h4, h5⟩ := pair_cells k (i + 1) (o + 1 + 1) h3 j (by omega)
   exact ⟨u, by rw [show o + (j + 2) = o + 1 + 1 + j by omega]; exact h4, by simpa only [pairS, List.getD_cons_succ] using h5⟩
theorem pair_lies {w : World} {b : Nat} {x y : Nat → BitVec 64} : ∀ (k i o : Nat), (∀ j, j < 2 * k → ∃ u, w.cell? ⟨b, o + j, none⟩ = some u ∧ rep [] ((pairS x y i k).getD j .any) u) → lieAt none w b o (pairD x y i k)
 | 0, _, _, _ => trivial
 | k + 1, i, o, h => by
  simp only [pairD, lieAt, lies]
  obtain ⟨u0, h0, r0⟩ := h 0 (by omega)
  obtain ⟨u1, h1, r1⟩ := h 1 (by omega)
  simp only [pairS, List.getD_cons_zero, List.getD_cons_succ, rep] at r0 r1
  refine ⟨⟨u0, h0, r0⟩, ⟨u1, h1, r1⟩, pair_lies k (i + 1) (o + 1 + 1) fun j hj => ?_⟩
  obtain ⟨u, h2, h3⟩ := h (j + 2) (by omega)
  exact ⟨u, by rw [show o + 1 + 1 + j = o + (j + 2) by omega]; exact h2, by simpa only [pairS, List.getD_cons_succ] using h3⟩
def entS (o k : Nat) (x y : Nat → BitVec 64) : SV := .agg (List.replicate o .any ++ pairS x y 0 k)
theorem ent_cell {o k j : Nat} (x y : Nat → BitVec 64) : (entS o k x y).cell (o + j) = (pairS x y 0 k).getD j .any := by
 simp only [entS, SV.cell, List.getD_eq_getElem?_getD]
 rw [List.getElem?_append_right (by simp), List.length_replicate, Nat.add_sub_cancel_left]
theorem cell_below {w : World} {b o j : Nat} {u : Value} (h : w.cell? ⟨b, o, none⟩ = some u) (hj : j < o) : ∃ u, w.cell? ⟨b, j, none⟩ = some u := by
 unfold World.cell? at h ⊢
 split at h
 ·rename_i c e1 e2 hb
  simp only [Option.isSome_none, Bool.false_eq_true, if_false] at h ⊢
  have : o < c.size := by
   rcases Nat.lt_or_ge o c.size with h1 | h1
   ·exact h1
   ·rw [Array.getElem?_eq_none h1] at h; cases h
  rw [hb]
  exact ⟨_, Array.getElem?_eq_getElem (by omega)⟩
 ·cases h
def Want (m : Int) (fr : List (BitVec 8)) (W : World) (v : Value) : Prop := ∃ (G : List (Nat × SV)) (X Y : Nat → BitVec 64), (∀ w, Glob G w → Glob (G1 m) w) ∧ (Glob (G1 m) W → Glob G W) ∧ Pt Tryz.prog G 19 [tyL fr, .c v] (argsD fr X Y)
theorem pt_const {G : List (Nat × SV)} {f : Nat} {a d d' : D} {v : Value} (h : Pt Tryz.prog G f [a, d] d') (hl : ∀ w, Glob G w → lies none w d v) : Pt Tryz.prog G f [a, .c v] d' := fun w args hG ha => by
 simp only [lie, lies] at ha
 obtain ⟨v1, t1, rfl, h1, v2, t2, rfl, rfl, rfl⟩ := ha
 exact h w _ hG (by simp only [lie]; exact ⟨_, _, rfl, h1, _, _, rfl, hl w hG, rfl⟩)
theorem want_0 : AllP (fun fr : List (BitVec 8) => W19 [tyL fr, .slm 2 0 []] some = some (argsD fr zz zz)) frsL := by
 refine AllP.cons ?_ (AllP.cons ?_ (AllP.cons ?_ (AllP.cons ?_ (AllP.cons ?_ (AllP.cons ?_ (AllP.cons ?_ (AllP.cons ?_ (AllP.cons ?_ (AllP.cons ?_ (AllP.cons ?_ (AllP.cons ?_ (AllP.cons ?_ (AllP.cons ?_ (AllP.cons ?_ (AllP.nil))))))))))))))) <;> (as_aux_lemma => kernel_rfl)
theorem want_fr0 (v : Value) : W19 [tyL [], .c v] some = some (argsD [] zz zz) := by kernel_rfl
theorem t_W19m (m : Int) : Snd1 m 19 W19 := lift t_W19 m
theorem glob_add {m : Int} {e : Nat × SV} {W : World} (h : Glob (G1 m) W) (he : e.1 < W.heap.size ∧ ∀ j, j < e.2.len → ∃ v, W.cell? ⟨e.1, j, none⟩ = some v ∧ rep [] (e.2.cell j) v) : Glob (G1 m ++ [e]) W := fun g c hm => by
 rcases List.mem_append.1 hm with h1 | h1
 ·exact h g c h1
 ·rw [List.mem_singleton] at h1
  subst h1
  exact he
theorem glob_sub {m : Int} {e : Nat × SV} {w : World} (h : Glob (G1 m ++ [e]) w) : Glob (G1 m) w := fun g c hm => h g c (List.mem_append_left _ hm)
theorem glob_ent {m : Int} {e : Nat × SV} {w : World} (h : Glob (G1 m ++ [e]) w) : e.1 < w.heap.size ∧ ∀ j, j < e.2.len → ∃ v, w.cell? ⟨e.1, j, none⟩ = some v ∧ rep [] (e.2.cell j) v := h e.1 e.2 (List.mem_append_right _ (List.mem_singleton.2 rfl))
theorem want_cells {m : Int} {fr : List (BitVec 8)} {n k : Nat} {x y X Y : Nat → BitVec 64} {W : World} {v : Value} (hk : 0 < k) (hkn : k ≤ n) (hl : lies none W (.slm 2 n (pairD x y 0 k)) v) (hn : W19 [tyL fr, .slm 2 n (pairD x y 0 k)] some = some (argsD fr X Y)) : Want m fr W v := by
 have hl0 := hl
 simp only [lies] at hl
 obtain ⟨b, o, cap, rfl, hb, hcap, hc, hlen, _⟩ := hl
 have hcell := pair_cells k 0 o hc
 refine ⟨G1 m ++ [(b, entS o k x y)], X, Y, fun w h => glob_sub h, fun h => glob_add h ⟨hb, fun j hj => ?_⟩, ?_⟩
 ·rcases Nat.lt_or_ge j o with h1 | h1
  ·obtain ⟨u0, h2, _⟩ := hcell 0 (by omega)
   obtain ⟨u, h3⟩ := cell_below h2 (j := j) (by omega)
   refine ⟨u, h3, ?_⟩
   have : (entS o k x y).cell j = .any := by
    simp only [entS, SV.cell, List.getD_eq_getElem?_getD]
    rw [List.getElem?_append_left (by simpa using h1)]
    simp [h1]
   rw [this]
   trivial
  ·obtain ⟨i, rfl⟩ := Nat.exists_eq_add_of_le h1
   rw [ent_cell]
   refine hcell i ?_
   simp only [entS, SV.len, List.length_append, List.length_replicate, pairS_len] at hj
   omega
 ·refine pt_const (Pt.more ((t_W19m m).pt hn) fun w h => glob_sub h) fun w hG => ?_
  obtain ⟨h1, h2⟩ := glob_ent hG
  simp only [lies]
  refine ⟨b, o, cap, rfl, h1, hcap, pair_lies k 0 o fun j hj => ?_, hlen, fun _ h => by cases h⟩
  obtain ⟨u, h3, h4⟩ := h2 (o + j) (by simp only [entS, SV.len, List.length_append, List.length_replicate, pairS_len]; omega)
  rw [ent_cell] at h4
  exact ⟨u, h3, h4⟩
theorem frs_len : frsL.all (fun fr => fr.length == 1 || frs2.contains fr && fr.length == 2 || frs2.contains fr && frs3.contains fr && fr.length == 3) = true := by decide +kernel
theorem want_ok (m : Int) {fr : List (BitVec 8)} (hfr : fr = [] ∨ fr ∈ frsL) {W : World} {v : Value}
  (h : lies none W (.c (.slice none 0 0)) v ∨ (∃ a, lies none W (.c (.slice (some a) 0 0)) v) ∨ ∃ (n : Nat) (x y : Nat → BitVec 64), n ≤ maxLen ∧ ∀ k, k ≤ n → lies none W (.slm 2 n (pairD x y 0 k)) v) : Want m fr W v := by
 rcases hfr with rfl | hfr
 ·exact ⟨G1 m, zz, zz, fun _ h => h, fun h => h, (t_W19m m).pt (want_fr0 v)⟩
 rcases h with h | ⟨a, h⟩ | ⟨n, x, y, _, h⟩
 ·simp only [lies] at h
  subst h
  exact ⟨G1 m, zz, zz, fun _ h => h, fun h => h, (t_W19m m).pt (want_nil.mem hfr)⟩
 ·simp only [lies] at h
  subst h
  exact ⟨G1 m, zz, zz, fun _ h => h, fun h => h, (t_W19m m).pt ((want_emp a).mem hfr)⟩
 ·rcases Nat.eq_zero_or_pos n with rfl | hn
  ·have h0 := h 0 (Nat.le_refl _)
   simp only [lies, pairD] at h0
   obtain ⟨b, o, cap, rfl, hb, hcap, hc, hlen, _⟩ := h0
   refine ⟨G1 m ++ [(b, .agg [])], zz, zz, fun w h => glob_sub h, fun h => glob_add h ⟨hb, fun j hj => absurd hj (Nat.not_lt_zero _)⟩, ?_⟩
   refine pt_const (Pt.more ((t_W19m m).pt (want_0.mem hfr)) fun w h => glob_sub h) fun w hG => ?_
   obtain ⟨h1, _⟩ := glob_ent hG
   simp only [lies]
   exact ⟨b, o, cap, rfl, h1, hcap, trivial, by simp, fun _ h => by cases h⟩
  ·have hlen := List.all_eq_true.1 frs_len fr hfr
   have big : fr.length ≤ n → 0 < fr.length → Want m fr W v := fun hle h0 => want_cells h0 hle (h _ hle) ((want_n n x y).mem hfr |>.trans (wTree_ok x y fr 0 _ (by omega)) |>.trans (by
    cases fr with
    | nil => cases h0
    | cons t ts => rfl))
   simp only [Bool.or_eq_true, Bool.and_eq_true, beq_iff_eq] at hlen
   rcases hlen with (h1 | ⟨h2, h3⟩) | ⟨⟨h2, h3⟩, h4⟩
   ·exact big (by omega) (by omega)
   ·by_cases hn2 : 2 ≤ n
    ·exact big (by omega) (by omega)
    ·obtain rfl : n = 1 := by omega
     exact want_cells Nat.one_pos (Nat.le_refl _) (h 1 (Nat.le_refl _)) ((want_1 x y).mem (List.mem_of_elem_eq_true h2))
   ·by_cases hn3 : 3 ≤ n
    ·exact big (by omega) (by omega)
    ·by_cases hn2 : n = 2
     ·subst hn2
      exact want_cells (by decide) (Nat.le_refl _) (h 2 (Nat.le_refl _)) ((want_2 x y).mem (List.mem_of_elem_eq_true h3))
     ·obtain rfl : n = 1 := by omega
      exact want_cells Nat.one_pos (Nat.le_refl _) (h 1 (Nat.le_refl _)) ((want_1 x y).mem (List.mem_of_elem_eq_true h2))
end Go.L23

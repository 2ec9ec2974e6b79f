/-
  Part of the proof; what its functions and lemmas say stands in the text.
-/
import Derived.Test.YtnbafdmlfpmfkaaGreatDoorEvB
import Derived.Deep.AppendSrc
import Derived.StillTail
set_option linter.unusedSimpArgs false
set_option linter.unusedVariables false
namespace Go.Ev
open Go.RowKit
inductive D where
 | any
 | bool (b : Bool)
 | i (k : IntKind) (n : Int)
 | u8 (x : BitVec 8)
 | u16 (x : BitVec 16)
 | u32 (x : BitVec 32)
 | u64 (x : BitVec 64)
 | f (k : FloatKind) (x : Nat)
 | nan (k : FloatKind)
 | xi (k : IntKind) (p : Int → Prop)
 | xf (k : FloatKind) (p : Nat → Prop)
 | xs
 | c (v : Value)
 | ref (l : List D)
 | refI (k : IntKind) (l : List Int)
 | ref8 (l : List (BitVec 8))
 | ref64 (l : List (BitVec 64))
 | sl (l : List D)
 | slI (k : IntKind) (l : List Int)
 | sl8 (l : List (BitVec 8))
 | sl64 (l : List (BitVec 64))
 | slm (z n : Nat) (l : List D)
 | agg (l : List D)
 | ai (k : IntKind) (l : List Int)
 | a8 (l : List (BitVec 8))
 | a64 (l : List (BitVec 64))
 | tup (l : List D)
 | clo (f : Nat) (l : List D)
 deriving Inhabited
def holds (w : World) (b o n : Nat) (g : Nat → Value) : Prop := ∀ j, j < n → w.cell? ⟨b, o + j, none⟩ = some (g j)
def owned (base : Nat) (w : World) (b o n : Nat) : Prop := base ≤ b ∧ ∀ j, j < n → (∃ v, w.cell? ⟨b, o + j, none⟩ = some v) ∧ w.frozen? ⟨b, o + j, none⟩ = false
mutual
def lies (own : Option Nat) (w : World) : D → Value → Prop
 | .any, _ => True
 | .bool b, v => v = .bool b
 | .i k n, v => v = .int k n
 | .u8 x, v => v = .int .u8 (x.toNat : Int)
 | .u16 x, v => v = .int .u16 (x.toNat : Int)
 | .u32 x, v => v = .int .u32 (x.toNat : Int)
 | .u64 x, v => v = .int .u64 (x.toNat : Int)
 | .f k x, v => v = .float k x
 | .nan k, v => ∃ x, v = .float k x ∧ nanOK k x
 | .xi k p, v => ∃ n, v = .int k n ∧ p n
 | .xf k p, v => ∃ x, v = .float k x ∧ p x
 | .xs, v => ∃ a n c, v = .slice a n c
 | .c u, v => v = u
 | .ref l, v => ∃ b o, v = .pointer (some ⟨b, o, none⟩) ∧ b < w.heap.size ∧ lieAt own w b o l
 | .refI k l, v => ∃ b o, v = .pointer (some ⟨b, o, none⟩) ∧ b < w.heap.size ∧ holds w b o l.length fun j => vi k (l.getD j 0)
 | .ref8 l, v => ∃ b o, v = .pointer (some ⟨b, o, none⟩) ∧ b < w.heap.size ∧ holds w b o l.length fun j => v8 (l.getD j 0)
 | .ref64 l, v => ∃ b o, v = .pointer (some ⟨b, o, none⟩) ∧ b < w.heap.size ∧ holds w b o l.length fun j => v64 (l.getD j 0)
 | .sl l, v => ∃ b o cap, v = .slice (some ⟨b, o, none⟩) l.length cap ∧ b < w.heap.size ∧ l.length ≤ cap ∧ lieAt own w b o l ∧ ∀ base, own = some base → owned base w b o cap
 | .slI k l, v => ∃ b o cap, v = .slice (some ⟨b, o, none⟩) l.length cap ∧ b < w.heap.size ∧ l.length ≤ cap ∧ (holds w b o l.length fun j => vi k (l.getD j 0)) ∧ ∀ base, own = some base → owned base w b o cap
 | .sl8 l, v => ∃ b o cap, v = .slice (some ⟨b, o, none⟩) l.length cap ∧ b < w.heap.size ∧ l.length ≤ cap ∧ (holds w b o l.length fun j => v8 (l.getD j 0)) ∧ ∀ base, own = some base → owned base w b o cap
 | .sl64 l, v => ∃ b o cap, v = .slice (some ⟨b, o, none⟩) l.length cap ∧ b < w.heap.size ∧ l.length ≤ cap ∧ (holds w b o l.length fun j => v64 (l.getD j 0)) ∧ ∀ base, own = some base → owned base w b o cap
 | .slm z n l, v => ∃ b o cap, v = .slice (some ⟨b, o, none⟩) n cap ∧ b < w.heap.size ∧ n ≤ cap ∧ lieAt own w b o l ∧ l.length ≤ cap * z ∧ ∀ base, own = some base → owned base w b o (cap * z)
 | .agg l, v => ∃ cs, v = .agg ⟨cs⟩ ∧ lie own w l cs
 | .ai k l, v => v = .agg ⟨l.map (vi k)⟩
 | .a8 l, v => v = .agg ⟨l.map v8⟩
 | .a64 l, v => v = .agg ⟨l.map v64⟩
 | .tup l, v => ∃ cs, v = .tuple ⟨cs⟩ ∧ lie own w l cs
 | .clo f l, v => ∃ cs, v = .func (.func f) #[] ⟨cs⟩ ∧ lie own w l cs
def lie (own : Option Nat) (w : World) : List D → List Value → Prop
 | [], vs => vs = []
 | d :: l, vs => ∃ v t, vs = v :: t ∧ lies own w d v ∧ lie own w l t
def lieAt (own : Option Nat) (w : World) (b o : Nat) : List D → Prop
 | [] => True
 | d :: l => (∃ u, w.cell? ⟨b, o, none⟩ = some u ∧ lies own w d u) ∧ lieAt own w b (o + 1) l
end
abbrev Spec := List D → (D → Option D) → Option D
def CallsTo (P : Program) (f : FuncId) (args : List Value) (w : World) (d : D) : Prop :=
 Calls P f ⟨args⟩ w fun e w' => ∃ v, e = .returned v ∧ Below w.heap.size w w' ∧ lies (some w.heap.size) w' d v
def CallGo (P : Program) (f : FuncId) (args : List Value) (w : World) (d : D) : Prop :=
 (∃ v w', (callFunc f ⟨args⟩).run P w = .ok (.value v) w' ∧ Below w.heap.size w w' ∧ lies (some w.heap.size) w' d v) ∨
 ((callFunc f ⟨args⟩).run P w = .ok (.enter f ⟨args⟩) w ∧ CallsTo P f args w d)
def Sound (P : Program) (G : List (Nat × SV)) (f : FuncId) (s : Spec) : Prop :=
 ∀ ds K r, s ds K = some r → ∃ d, K d = some r ∧ ∀ w args, Glob G w → lie none w ds args → CallGo P f args w d
def mapO {α β : Type} (f : α → Option β) : List α → Option (List β)
 | [] => some []
 | x :: l => match f x, mapO f l with | some y, some t => some (y :: t) | _, _ => none
def reify (own : Bool) (rows : Rows) : Nat → SV → Option D
 | 0, _ => none
 | m + 1, s => match s with
  | .any => some .any
  | .bool b => some (.bool b)
  | .i k n => some (.i k n)
  | .u8 x => some (.u8 x)
  | .u16 x => some (.u16 x)
  | .u32 x => some (.u32 x)
  | .u64 x => some (.u64 x)
  | .f k x => some (.f k x)
  | .nan k => some (.nan k)
  | .xi k p => some (.xi k p)
  | .xf k p => some (.xf k p)
  | .xs => some .xs
  | .c v => some (.c v)
  | .gl _ => none
  | .ptr r off => if own then none else match rows[r]? with
   | some (some row) => match row.con with
    | .agg l => match mapO (reify own rows m) (l.drop off) with | some t => some (.ref t) | none => none
    | .ai k l => match off with | 0 => some (.refI k l) | _ + 1 => none
    | .a8 l => match off with | 0 => some (.ref8 l) | _ + 1 => none
    | .a64 l => match off with | 0 => some (.ref64 l) | _ + 1 => none
    | _ => none
   | _ => none
  | .sl r off len => match rows[r]? with
   | some (some row) => if own && !row.own then none else match row.con with
    | .agg l => if off + len ≤ l.length then match mapO (reify own rows m) ((l.drop off).take len) with | some t => some (.sl t) | none => none else none
    | .ai k l => if off + len ≤ l.length then some (.slI k ((l.drop off).take len)) else none
    | .a8 l => if off + len ≤ l.length then some (.sl8 ((l.drop off).take len)) else none
    | .a64 l => if off + len ≤ l.length then some (.sl64 ((l.drop off).take len)) else none
    | _ => none
   | _ => none
  | .slm z r off len => match rows[r]? with
   | some (some row) => if own && !row.own then none else match row.con with
    | .agg l => if off + len * z ≤ l.length then match mapO (reify own rows m) ((l.drop off).take (len * z)) with | some t => some (.slm z len t) | none => none else none
    | _ => none
   | _ => none
  | .sit _ _ => none
  | .agg l => match mapO (reify own rows m) l with | some t => some (.agg t) | none => none
  | .ai k l => some (.ai k l)
  | .a8 l => some (.a8 l)
  | .a64 l => some (.a64 l)
  | .tup l => match mapO (reify own rows m) l with | some t => some (.tup t) | none => none
  | .clo f l => match mapO (reify own rows m) l with | some t => some (.clo f t) | none => none
def reifyU (own : Bool) (rows : Rows) : Nat → SV → Option D
 | 0, _ => none
 | m + 1, s => match s with
  | .any => some .any
  | .bool b => some (.bool b)
  | .i k n => some (.i k n)
  | .u8 x => some (.u8 x)
  | .u16 x => some (.u16 x)
  | .u32 x => some (.u32 x)
  | .u64 x => some (.u64 x)
  | .f k x => some (.f k x)
  | .nan k => some (.nan k)
  | .xi k p => some (.xi k p)
  | .xf k p => some (.xf k p)
  | .xs => some .xs
  | .c v => some (.c v)
  | .gl _ => none
  | .ptr r off => if own then none else match rows[r]? with
   | some (some row) => match row.con with
    | .agg l => match mapO (reifyU own rows m) (l.drop off) with | some t => some (.ref t) | none => none
    | .ai k l => match off with | 0 => some (.refI k l) | _ + 1 => none
    | .a8 l => match off with | 0 => some (.ref8 l) | _ + 1 => none
    | .a64 l => match off with | 0 => some (.ref64 l) | _ + 1 => none
    | _ => none
   | _ => none
  | .sl r off len => match rows[r]? with
   | some (some row) => if own && !row.own then none else match row.con with
    | .agg l => match mapO (reifyU own rows m) ((l.drop off).take len) with | some t => some (.sl t) | none => none
    | .ai k l => some (.slI k ((l.drop off).take len))
    | .a8 l => some (.sl8 ((l.drop off).take len))
    | .a64 l => some (.sl64 ((l.drop off).take len))
    | _ => none
   | _ => none
  | .slm z r off len => match rows[r]? with
   | some (some row) => if own && !row.own then none else match row.con with
    | .agg l => match mapO (reifyU own rows m) ((l.drop off).take (len * z)) with | some t => some (.slm z len t) | none => none
    | _ => none
   | _ => none
  | .sit _ _ => none
  | .agg l => match mapO (reifyU own rows m) l with | some t => some (.agg t) | none => none
  | .ai k l => some (.ai k l)
  | .a8 l => some (.a8 l)
  | .a64 l => some (.a64 l)
  | .tup l => match mapO (reifyU own rows m) l with | some t => some (.tup t) | none => none
  | .clo f l => match mapO (reifyU own rows m) l with | some t => some (.clo f t) | none => none
def okR (rows : Rows) : Nat → SV → Bool
 | 0, _ => true
 | m + 1, s => match s with
  | .ptr r off => match rows[r]? with
   | some (some row) => match row.con with
    | .agg l => (l.drop off).all (okR rows m)
    | _ => true
   | _ => true
  | .sl r off len => match rows[r]? with
   | some (some row) => match row.con with
    | .agg l => decide (off + len ≤ l.length) && ((l.drop off).take len).all (okR rows m)
    | .ai _ l => decide (off + len ≤ l.length)
    | .a8 l => decide (off + len ≤ l.length)
    | .a64 l => decide (off + len ≤ l.length)
    | _ => true
   | _ => true
  | .slm z r off len => match rows[r]? with
   | some (some row) => match row.con with
    | .agg l => decide (off + len * z ≤ l.length) && ((l.drop off).take (len * z)).all (okR rows m)
    | _ => true
   | _ => true
  | .agg l => l.all (okR rows m)
  | .tup l => l.all (okR rows m)
  | .clo _ l => l.all (okR rows m)
  | _ => true
theorem mapO_congr {α β : Type} {f g : α → Option β} {p : α → Bool} (h : ∀ x y, f x = some y → p x = true → g x = some y) : ∀ {l : List α} {t : List β}, mapO f l = some t → l.all p = true → mapO g l = some t
 | [], t, hm, _ => hm
 | x :: l, t, hm, hp => by
  simp only [List.all_cons, Bool.and_eq_true] at hp
  simp only [mapO] at hm ⊢
  split at hm
  ·rename_i y u hy hu
   rw [h x y hy hp.1, mapO_congr h hu hp.2]
   exact hm
  ·cases hm
theorem reifyU_ok {own : Bool} {rows : Rows} : ∀ (m : Nat) (s : SV) (d : D), reifyU own rows m s = some d → okR rows m s = true → reify own rows m s = some d := by
 intro m
 induction m with
 | zero => intro s d h; cases h
 | succ m ih =>
  intro s d h hok
  cases s <;> simp only [reifyU, reduceCtorEq] at h <;> simp only [okR] at hok <;> simp only [reify] <;> try exact h
  case ptr r off =>
   split at h
   ·cases h
   ·rename_i hown
    rw [if_neg hown]
    split at h
    ·rename_i row hrow
     rw [hrow] at hok
     simp only [] at hok ⊢
     split at h
     ·rename_i l hcon
      rw [hcon] at hok
      simp only [] at hok ⊢
      split at h
      ·rename_i t ht
       rw [mapO_congr ih ht hok]; exact h
      ·cases h
     ·exact h
     ·exact h
     ·exact h
     ·cases h
    ·cases h
  case sl r off len =>
   split at h
   ·rename_i row hrow
    rw [hrow] at hok
    simp only [] at hok ⊢
    split at h
    ·cases h
    ·rename_i hown
     rw [if_neg hown]
     split at h
     ·rename_i l hcon
      rw [hcon] at hok
      simp only [Bool.and_eq_true, decide_eq_true_eq] at hok ⊢
      rw [if_pos hok.1]
      split at h
      ·rename_i t ht
       rw [mapO_congr ih ht hok.2]; exact h
      ·cases h
     ·rename_i k l hcon
      rw [hcon] at hok
      simp only [decide_eq_true_eq] at hok ⊢
      rw [if_pos hok]; exact h
     ·rename_i l hcon
      rw [hcon] at hok
      simp only [decide_eq_true_eq] at hok ⊢
      rw [if_pos hok]; exact h
     ·rename_i l hcon
      rw [hcon] at hok
      simp only [decide_eq_true_eq] at hok ⊢
      rw [if_pos hok]; exact h
     ·cases h
   ·cases h
  case slm z r off len =>
   split at h
   ·rename_i row hrow
    rw [hrow] at hok
    simp only [] at hok ⊢
    split at h
    ·cases h
    ·rename_i hown
     rw [if_neg hown]
     split at h
     ·rename_i l hcon
      rw [hcon] at hok
      simp only [Bool.and_eq_true, decide_eq_true_eq] at hok ⊢
      rw [if_pos hok.1]
      split at h
      ·rename_i t ht
       rw [mapO_congr ih ht hok.2]; exact h
      ·cases h
     ·cases h
   ·cases h
  case agg l =>
   split at h
   ·rename_i t ht
    rw [mapO_congr ih ht hok]; exact h
   ·cases h
  case tup l =>
   split at h
   ·rename_i t ht
    rw [mapO_congr ih ht hok]; exact h
   ·cases h
  case clo f l =>
   split at h
   ·rename_i t ht
    rw [mapO_congr ih ht hok]; exact h
   ·cases h
theorem mapO_length {α β : Type} {f : α → Option β} : ∀ {l : List α} {t : List β}, mapO f l = some t → t.length = l.length
 | [], t, h => by simp only [mapO, Option.some.injEq] at h; subst h; rfl
 | x :: l, t, h => by
  simp only [mapO] at h
  split at h
  ·rename_i y u hy hu
   simp only [Option.some.injEq] at h; subst h
   simp [mapO_length hu]
  ·cases h
theorem lie_of {own : Option Nat} {w : World} {L : List (Option Loc)} {f : SV → Option D} (h : ∀ s d v, f s = some d → rep L s v → lies own w d v) : ∀ {l : List SV} {t : List D} {vs : List Value}, mapO f l = some t → reps L l vs → lie own w t vs
 | [], t, vs, hm, hr => by simp only [mapO, Option.some.injEq] at hm; subst hm; simpa [reps, lie] using hr
 | x :: l, t, vs, hm, hr => by
  simp only [mapO] at hm
  split at hm
  ·rename_i y u hy hu
   simp only [Option.some.injEq] at hm; subst hm
   simp only [reps] at hr
   obtain ⟨v, vt, rfl, hv, hr⟩ := hr
   simp only [lie]
   exact ⟨v, vt, rfl, h x y v hy hv, lie_of h hu hr⟩
  ·cases hm
theorem lieAt_of {own : Option Nat} {w : World} {L : List (Option Loc)} {f : SV → Option D} (h : ∀ s d v, f s = some d → rep L s v → lies own w d v) : ∀ {l : List SV} {t : List D} (b o : Nat), mapO f l = some t →
  (∀ j, j < l.length → ∃ v, w.cell? ⟨b, o + j, none⟩ = some v ∧ rep L (l.getD j .any) v) → lieAt own w b o t
 | [], t, b, o, hm, _ => by simp only [mapO, Option.some.injEq] at hm; subst hm; simp [lieAt]
 | x :: l, t, b, o, hm, hc => by
  simp only [mapO] at hm
  split at hm
  ·rename_i y u hy hu
   simp only [Option.some.injEq] at hm; subst hm
   simp only [lieAt]
   refine ⟨?_, lieAt_of h b (o + 1) hu fun j hj => ?_⟩
   ·obtain ⟨v, h1, h2⟩ := hc 0 (by simp)
    exact ⟨v, by simpa using h1, h x y v hy (by simpa using h2)⟩
   ·obtain ⟨v, h1, h2⟩ := hc (j + 1) (by simpa using hj)
    exact ⟨v, by rw [← h1]; congr 2; omega, by simpa using h2⟩
  ·cases hm
theorem reify_ok {own : Bool} {w0 w : World} {L : List (Option Loc)} {rows : Rows} (hw : See w0 L rows w) :
  ∀ (m : Nat) (s : SV) (d : D) (v : Value), reify own rows m s = some d → rep L s v → lies (if own then some w0.heap.size else none) w d v := by
 intro m
 induction m with
 | zero => intro s d v h; cases h
 | succ m ih =>
  intro s d v h hr
  have slc : ∀ (r off len : Nat) (row : Row), rows[r]? = some (some row) → (own && !row.own) = false → off + len ≤ row.con.len → rep L (.sl r off len) v →
    ∃ b o cap, v = .slice (some ⟨b, o, none⟩) len cap ∧ b < w.heap.size ∧ len ≤ cap ∧ (∀ j, j < len → ∃ u, w.cell? ⟨b, o + j, none⟩ = some u ∧ rep L (row.con.cell (off + j)) u) ∧ ∀ base, (if own then some w0.heap.size else none) = some base → owned base w b o cap := by
   intro r off len row hrow hown hle hr
   simp only [rep] at hr
   obtain ⟨lc, cap, hlc, h1, h2, hv⟩ := hr
   have ok := (hw r row lc hrow hlc).1
   refine ⟨lc.blk, lc.base + off, cap, hv, ok.blk, h1, fun j hj => ?_, fun base hbase => ?_⟩
   ·rw [Nat.add_assoc]; exact ok.cell (off + j) (by omega)
   ·split at hbase
    ·rename_i ho
     simp only [Option.some.injEq] at hbase; subst hbase
     have hro : row.own = true := by rw [ho] at hown; simpa using hown
     refine ⟨(hw r row lc hrow hlc).2 hro, fun j hj => ⟨?_, ?_⟩⟩
     ·rw [Nat.add_assoc]; exact ok.all hro (off + j) (by omega)
     ·rw [Nat.add_assoc]; exact ok.free hro (off + j) (by omega)
    ·cases hbase
  cases s <;> simp only [reify, reduceCtorEq, Option.some.injEq] at h
  case any => subst h; simp only [lies]
  case bool => subst h; simpa only [lies, rep] using hr
  case i => subst h; simpa only [lies, rep] using hr
  case u8 => subst h; simpa only [lies, rep] using hr
  case u16 => subst h; simpa only [lies, rep] using hr
  case u32 => subst h; simpa only [lies, rep] using hr
  case u64 => subst h; simpa only [lies, rep] using hr
  case f => subst h; simpa only [lies, rep] using hr
  case nan => subst h; simpa only [lies, rep] using hr
  case xi => subst h; simpa only [lies, rep] using hr
  case xf => subst h; simpa only [lies, rep] using hr
  case xs => subst h; simpa only [lies, rep] using hr
  case c => subst h; simpa only [lies, rep] using hr
  case ai => subst h; simpa only [lies, rep] using hr
  case a8 => subst h; simpa only [lies, rep] using hr
  case a64 => subst h; simpa only [lies, rep] using hr
  case ptr r off =>
   split at h
   ·cases h
   ·rename_i hown
    split at h
    ·rename_i row hrow
     have hr' := hr
     simp only [rep] at hr'
     obtain ⟨lc, hlc, hv⟩ := hr'
     have ok := (hw r row lc hrow hlc).1
     have cell := ok.cell
     split at h
     ·rename_i l hcon
      split at h
      ·rename_i t ht
       simp only [Option.some.injEq] at h; subst h
       simp only [lies]
       refine ⟨lc.blk, lc.base + off, hv, ok.blk, lieAt_of ih _ _ ht fun j hj => ?_⟩
       have hj' : off + j < l.length := by simp at hj; omega
       obtain ⟨u, h1, h2⟩ := cell (off + j) (by rw [hcon]; exact hj')
       rw [hcon] at h2
       refine ⟨u, by rw [Nat.add_assoc]; exact h1, ?_⟩
       simp only [SV.cell] at h2
       have e : (l.drop off).getD j .any = l.getD (off + j) .any := by simp [List.getD_eq_getElem?_getD, List.getElem?_drop]
       rw [e]; exact h2
      ·cases h
     ·rename_i k l hcon
      split at h
      ·simp only [Option.some.injEq] at h; subst h
       simp only [lies]
       refine ⟨lc.blk, lc.base + 0, hv, ok.blk, fun j hj => ?_⟩
       obtain ⟨u, h1, h2⟩ := cell j (by rw [hcon]; exact hj)
       rw [hcon] at h2; simp only [SV.cell, rep] at h2
       rw [Nat.add_zero, h1, h2]; rfl
      ·cases h
     ·rename_i l hcon
      split at h
      ·simp only [Option.some.injEq] at h; subst h
       simp only [lies]
       refine ⟨lc.blk, lc.base + 0, hv, ok.blk, fun j hj => ?_⟩
       obtain ⟨u, h1, h2⟩ := cell j (by rw [hcon]; exact hj)
       rw [hcon] at h2; simp only [SV.cell, rep] at h2
       rw [Nat.add_zero, h1, h2]; rfl
      ·cases h
     ·rename_i l hcon
      split at h
      ·simp only [Option.some.injEq] at h; subst h
       simp only [lies]
       refine ⟨lc.blk, lc.base + 0, hv, ok.blk, fun j hj => ?_⟩
       obtain ⟨u, h1, h2⟩ := cell j (by rw [hcon]; exact hj)
       rw [hcon] at h2; simp only [SV.cell, rep] at h2
       rw [Nat.add_zero, h1, h2]; rfl
      ·cases h
     ·cases h
    ·cases h
  case slm z r off len =>
   split at h
   ·rename_i row hrow
    split at h
    ·cases h
    ·rename_i hown
     have hown' : (own && !row.own) = false := by simpa using hown
     split at h
     ·rename_i l hcon
      split at h
      ·rename_i hle
       split at h
       ·rename_i t ht
        simp only [Option.some.injEq] at h; subst h
        simp only [rep] at hr
        obtain ⟨lc, cap, hlc, h1, h2, hv⟩ := hr
        have ok := (hw r row lc hrow hlc).1
        have htl : t.length = len * z := by rw [mapO_length ht]; simp; omega
        simp only [lies]
        refine ⟨lc.blk, lc.base + off, cap, hv, ok.blk, h1, lieAt_of ih _ _ ht fun j hj => ?_, by rw [htl]; exact Nat.mul_le_mul_right _ h1, fun base hbase => ?_⟩
        ·have hj' : j < len * z := by simp at hj; omega
         obtain ⟨u, h6, h7⟩ := ok.cell (off + j) (by rw [hcon]; show off + j < l.length; omega)
         rw [hcon] at h7
         refine ⟨u, by rw [Nat.add_assoc]; exact h6, ?_⟩
         simp only [SV.cell] at h7
         have e : ((l.drop off).take (len * z)).getD j .any = l.getD (off + j) .any := by simp [List.getD_eq_getElem?_getD, hj', List.getElem?_drop]
         rw [e]; exact h7
        ·split at hbase
         ·rename_i ho
          simp only [Option.some.injEq] at hbase; subst hbase
          have hro : row.own = true := by rw [ho] at hown'; simpa using hown'
          refine ⟨(hw r row lc hrow hlc).2 hro, fun j hj => ⟨?_, ?_⟩⟩
          ·rw [Nat.add_assoc]; exact ok.all hro (off + j) (by omega)
          ·rw [Nat.add_assoc]; exact ok.free hro (off + j) (by omega)
         ·cases hbase
       ·cases h
      ·cases h
     ·cases h
   ·cases h
  case sl r off len =>
   split at h
   ·rename_i row hrow
    split at h
    ·cases h
    ·rename_i hown
     have hown' : (own && !row.own) = false := by simpa using hown
     split at h
     ·rename_i l hcon
      split at h
      ·rename_i hle
       split at h
       ·rename_i t ht
        simp only [Option.some.injEq] at h; subst h
        obtain ⟨b, o, cap, h1, h2, h3, h4, h5⟩ := slc r off len row hrow hown' (by rw [hcon]; exact hle) hr
        have htl : t.length = len := by rw [mapO_length ht]; simp; omega
        simp only [lies]
        refine ⟨b, o, cap, by rw [htl]; exact h1, h2, by rw [htl]; exact h3, lieAt_of ih _ _ ht fun j hj => ?_, h5⟩
        have hj' : j < len := by simp at hj; omega
        obtain ⟨u, h6, h7⟩ := h4 j hj'
        rw [hcon] at h7
        refine ⟨u, h6, ?_⟩
        simp only [SV.cell] at h7
        have e : ((l.drop off).take len).getD j .any = l.getD (off + j) .any := by simp [List.getD_eq_getElem?_getD, hj', List.getElem?_drop]
        rw [e]; exact h7
       ·cases h
      ·cases h
     ·rename_i k l hcon
      split at h
      ·rename_i hle
       simp only [Option.some.injEq] at h; subst h
       obtain ⟨b, o, cap, h1, h2, h3, h4, h5⟩ := slc r off len row hrow hown' (by rw [hcon]; exact hle) hr
       have htl : ((l.drop off).take len).length = len := by simp; omega
       simp only [lies]
       refine ⟨b, o, cap, by rw [htl]; exact h1, h2, by rw [htl]; exact h3, fun j hj => ?_, h5⟩
       have hj' : j < len := by rw [htl] at hj; exact hj
       obtain ⟨u, h6, h7⟩ := h4 j hj'
       rw [hcon] at h7
       simp only [SV.cell, rep] at h7
       have e : ((l.drop off).take len).getD j 0 = l.getD (off + j) 0 := by simp [List.getD_eq_getElem?_getD, hj', List.getElem?_drop]
       rw [h6, h7]; simp only [e]; rfl
      ·cases h
     ·rename_i l hcon
      split at h
      ·rename_i hle
       simp only [Option.some.injEq] at h; subst h
       obtain ⟨b, o, cap, h1, h2, h3, h4, h5⟩ := slc r off len row hrow hown' (by rw [hcon]; exact hle) hr
       have htl : ((l.drop off).take len).length = len := by simp; omega
       simp only [lies]
       refine ⟨b, o, cap, by rw [htl]; exact h1, h2, by rw [htl]; exact h3, fun j hj => ?_, h5⟩
       have hj' : j < len := by rw [htl] at hj; exact hj
       obtain ⟨u, h6, h7⟩ := h4 j hj'
       rw [hcon] at h7
       simp only [SV.cell, rep] at h7
       have e : ((l.drop off).take len).getD j 0 = l.getD (off + j) 0 := by simp [List.getD_eq_getElem?_getD, hj', List.getElem?_drop]
       rw [h6, h7]; simp only [e]; rfl
      ·cases h
     ·rename_i l hcon
      split at h
      ·rename_i hle
       simp only [Option.some.injEq] at h; subst h
       obtain ⟨b, o, cap, h1, h2, h3, h4, h5⟩ := slc r off len row hrow hown' (by rw [hcon]; exact hle) hr
       have htl : ((l.drop off).take len).length = len := by simp; omega
       simp only [lies]
       refine ⟨b, o, cap, by rw [htl]; exact h1, h2, by rw [htl]; exact h3, fun j hj => ?_, h5⟩
       have hj' : j < len := by rw [htl] at hj; exact hj
       obtain ⟨u, h6, h7⟩ := h4 j hj'
       rw [hcon] at h7
       simp only [SV.cell, rep] at h7
       have e : ((l.drop off).take len).getD j 0 = l.getD (off + j) 0 := by simp [List.getD_eq_getElem?_getD, hj', List.getElem?_drop]
       rw [h6, h7]; simp only [e]; rfl
      ·cases h
     ·cases h
   ·cases h
  case agg l =>
   split at h
   ·rename_i t ht
    simp only [Option.some.injEq] at h; subst h
    simp only [rep] at hr
    obtain ⟨cs, rfl, hr⟩ := hr
    simp only [lies]
    exact ⟨cs, rfl, lie_of ih ht hr⟩
   ·cases h
  case tup l =>
   split at h
   ·rename_i t ht
    simp only [Option.some.injEq] at h; subst h
    simp only [rep] at hr
    obtain ⟨cs, rfl, hr⟩ := hr
    simp only [lies]
    exact ⟨cs, rfl, lie_of ih ht hr⟩
   ·cases h
  case clo f l =>
   split at h
   ·rename_i t ht
    simp only [Option.some.injEq] at h; subst h
    simp only [rep] at hr
    obtain ⟨cs, rfl, hr⟩ := hr
    simp only [lies]
    exact ⟨cs, rfl, lie_of ih ht hr⟩
   ·cases h
end Go.Ev
namespace Go.Ev
open Go.RowKit
def dS : Nat → D → Option SV
 | 0, _ => none
 | m + 1, d => match d with
  | .any => some .any
  | .bool b => some (.bool b)
  | .i k n => some (.i k n)
  | .u8 x => some (.u8 x)
  | .u16 x => some (.u16 x)
  | .u32 x => some (.u32 x)
  | .u64 x => some (.u64 x)
  | .f k x => some (.f k x)
  | .nan k => some (.nan k)
  | .xi k p => some (.xi k p)
  | .xf k p => some (.xf k p)
  | .xs => some .xs
  | .c v => some (.c v)
  | .agg l => match mapO (dS m) l with | some t => some (.agg t) | none => none
  | .ai k l => some (.ai k l)
  | .a8 l => some (.a8 l)
  | .a64 l => some (.a64 l)
  | .tup l => match mapO (dS m) l with | some t => some (.tup t) | none => none
  | _ => none
theorem reps_of_lie {own : Option Nat} {w : World} {L : List (Option Loc)} {f : D → Option SV} (h : ∀ d s v, f d = some s → lies own w d v → rep L s v) : ∀ {l : List D} {t : List SV} {vs : List Value}, mapO f l = some t → lie own w l vs → reps L t vs
 | [], t, vs, hm, hr => by simp only [mapO, Option.some.injEq] at hm; subst hm; simpa [reps, lie] using hr
 | x :: l, t, vs, hm, hr => by
  simp only [mapO] at hm
  split at hm
  ·rename_i y u hy hu
   simp only [Option.some.injEq] at hm; subst hm
   simp only [lie] at hr
   obtain ⟨v, vt, rfl, hv, hr⟩ := hr
   simp only [reps]
   exact ⟨v, vt, rfl, h x y v hy hv, reps_of_lie h hu hr⟩
  ·cases hm
theorem dS_ok {own : Option Nat} {w : World} (L : List (Option Loc)) : ∀ (m : Nat) (d : D) (s : SV) (v : Value), dS m d = some s → lies own w d v → rep L s v := by
 intro m
 induction m with
 | zero => intro d s v h; cases h
 | succ m ih =>
  intro d s v h hl
  cases d <;> simp only [dS, reduceCtorEq, Option.some.injEq] at h
  case any => subst h; simp only [rep]
  case bool => subst h; simpa only [lies, rep] using hl
  case i => subst h; simpa only [lies, rep] using hl
  case u8 => subst h; simpa only [lies, rep] using hl
  case u16 => subst h; simpa only [lies, rep] using hl
  case u32 => subst h; simpa only [lies, rep] using hl
  case u64 => subst h; simpa only [lies, rep] using hl
  case f => subst h; simpa only [lies, rep] using hl
  case nan => subst h; simpa only [lies, rep] using hl
  case xi => subst h; simpa only [lies, rep] using hl
  case xf => subst h; simpa only [lies, rep] using hl
  case xs => subst h; simpa only [lies, rep] using hl
  case c => subst h; simpa only [lies, rep] using hl
  case ai => subst h; simpa only [lies, rep] using hl
  case a8 => subst h; simpa only [lies, rep] using hl
  case a64 => subst h; simpa only [lies, rep] using hl
  case agg l =>
   split at h
   ·rename_i t ht
    simp only [Option.some.injEq] at h; subst h
    simp only [lies] at hl
    obtain ⟨cs, rfl, hl⟩ := hl
    simp only [rep]
    exact ⟨cs, rfl, reps_of_lie ih ht hl⟩
   ·cases h
  case tup l =>
   split at h
   ·rename_i t ht
    simp only [Option.some.injEq] at h; subst h
    simp only [lies] at hl
    obtain ⟨cs, rfl, hl⟩ := hl
    simp only [rep]
    exact ⟨cs, rfl, reps_of_lie ih ht hl⟩
   ·cases h
def reflect1 (k m : Nat) (d : D) : Option (SV × Option SV) :=
 match d with
 | .sl l => match mapO (dS m) l with | some t => some (.sl k 0 l.length, some (.agg t)) | none => none
 | .slI q l => some (.sl k 0 l.length, some (.ai q l))
 | .sl8 l => some (.sl k 0 l.length, some (.a8 l))
 | .sl64 l => some (.sl k 0 l.length, some (.a64 l))
 | .slm z n l => match mapO (dS m) l with | some t => some (.slm z k 0 n, some (.agg t)) | none => none
 | d => match dS m d with | some s => some (s, none) | none => none
def reflectL (k m : Nat) : List D → Option (List SV × Option SV)
 | [] => some ([], none)
 | d :: l => match reflect1 k m d, reflectL k m l with
  | some (s, none), some (t, r) => some (s :: t, r)
  | some (s, some c), some (t, none) => some (s :: t, some c)
  | _, _ => none
def reflect (k m : Nat) (d : D) : Option (SV × Option SV) :=
 match d with
 | .tup l => match reflectL k m l with | some (t, r) => some (.tup t, r) | none => none
 | .agg l => match reflectL k m l with | some (t, r) => some (.agg t, r) | none => none
 | d => reflect1 k m d
def Fresh (base : Nat) (w : World) (k : Nat) (con : SV) (R : List (Option Loc) → Prop) : Prop :=
 ∃ o : Loc, base ≤ o.blk ∧ (∀ L, RowOK L o ⟨con, true⟩ w) ∧ ∀ L, lo L k = some o → R L
def Gives (base : Nat) (w : World) (k : Nat) (R : List (Option Loc) → Prop) : Option SV → Prop
 | none => ∀ L, R L
 | some con => Fresh base w k con R
theorem holds_row {base : Nat} {w : World} {b o cap : Nat} {con : SV} (hb : b < w.heap.size) (hlen : con.len ≤ cap) (hown : owned base w b o cap)
  (hc : ∀ L j, j < con.len → ∃ v, w.cell? ⟨b, o + j, none⟩ = some v ∧ rep L (con.cell j) v) (hi : con.isit = false) : base ≤ b ∧ ∀ L, RowOK L ⟨b, o, cap⟩ ⟨con, true⟩ w :=
 ⟨hown.1, fun L => ⟨hlen, hb, fun j hj => hc L j hj, fun _ j hj => (hown.2 j hj).1, fun _ j hj => (hown.2 j hj).2, fun s p hs => by simp only [] at hs; rw [hs] at hi; cases hi⟩⟩
theorem reflect1_ok {k m : Nat} {d : D} {s : SV} {row : Option SV} {base : Nat} {w : World} {v : Value} (h : reflect1 k m d = some (s, row)) (hl : lies (some base) w d v) : Gives base w k (fun L => rep L s v) row := by
 have sl : ∀ (n b o cap : Nat) (con : SV), v = .slice (some ⟨b, o, none⟩) n cap → b < w.heap.size → n ≤ cap → con.len = n → owned base w b o cap → con.isit = false → (∀ L j, j < con.len → ∃ v, w.cell? ⟨b, o + j, none⟩ = some v ∧ rep L (con.cell j) v) →
   Fresh base w k con (fun L => rep L (.sl k 0 n) v) := by
  intro n b o cap con hv hb hn hcl hown hci hc
  obtain ⟨h1, h2⟩ := holds_row hb (by omega) hown hc hci
  refine ⟨⟨b, o, cap⟩, h1, h2, fun L hL => ?_⟩
  simp only [rep]
  exact ⟨_, cap, hL, hn, by simp, by rw [hv]; simp⟩
 unfold reflect1 at h
 split at h
 ·rename_i l
  split at h
  ·rename_i t ht
   simp only [Option.some.injEq, Prod.mk.injEq] at h
   obtain ⟨rfl, rfl⟩ := h
   simp only [lies] at hl
   obtain ⟨b, o, cap, h1, h2, h3, h4, h5⟩ := hl
   refine sl _ b o cap _ h1 h2 h3 (by simp [SV.len, mapO_length ht]) (h5 base rfl) rfl fun L j hj => ?_
   have : ∀ (l : List D) (t : List SV) (o : Nat), mapO (dS m) l = some t → lieAt (some base) w b o l → ∀ j, j < t.length → ∃ v, w.cell? ⟨b, o + j, none⟩ = some v ∧ rep L (t.getD j .any) v := by
    intro l
    induction l with
    | nil => intro t o ht _ j hj; simp only [mapO, Option.some.injEq] at ht; subst ht; cases hj
    | cons x l ih =>
     intro t o ht hl j hj
     simp only [mapO] at ht
     split at ht
     ·rename_i y u hy hu
      simp only [Option.some.injEq] at ht; subst ht
      simp only [lieAt] at hl
      obtain ⟨⟨c, hc1, hc2⟩, hl⟩ := hl
      cases j with
      | zero => exact ⟨c, by simpa using hc1, by simpa using dS_ok L m x y c hy hc2⟩
      | succ j =>
       obtain ⟨c', h6, h7⟩ := ih u (o + 1) hu hl j (by simpa using hj)
       exact ⟨c', by rw [← h6]; congr 2; omega, by simpa using h7⟩
     ·cases ht
   simpa [SV.cell] using this l t o ht h4 j (by simpa [SV.len] using hj)
  ·cases h
 ·simp only [Option.some.injEq, Prod.mk.injEq] at h
  obtain ⟨rfl, rfl⟩ := h
  simp only [lies] at hl
  obtain ⟨b, o, cap, h1, h2, h3, h4, h5⟩ := hl
  exact sl _ b o cap _ h1 h2 h3 (by simp [SV.len]) (h5 base rfl) rfl fun L j hj => ⟨_, h4 j (by simpa [SV.len] using hj), by simp only [SV.cell, rep, vi]⟩
 ·simp only [Option.some.injEq, Prod.mk.injEq] at h
  obtain ⟨rfl, rfl⟩ := h
  simp only [lies] at hl
  obtain ⟨b, o, cap, h1, h2, h3, h4, h5⟩ := hl
  exact sl _ b o cap _ h1 h2 h3 (by simp [SV.len]) (h5 base rfl) rfl fun L j hj => ⟨_, h4 j (by simpa [SV.len] using hj), by simp only [SV.cell, rep, v8]⟩
 ·simp only [Option.some.injEq, Prod.mk.injEq] at h
  obtain ⟨rfl, rfl⟩ := h
  simp only [lies] at hl
  obtain ⟨b, o, cap, h1, h2, h3, h4, h5⟩ := hl
  exact sl _ b o cap _ h1 h2 h3 (by simp [SV.len]) (h5 base rfl) rfl fun L j hj => ⟨_, h4 j (by simpa [SV.len] using hj), by simp only [SV.cell, rep, v64]⟩
 ·rename_i z n l
  split at h
  ·rename_i t ht
   simp only [Option.some.injEq, Prod.mk.injEq] at h
   obtain ⟨rfl, rfl⟩ := h
   simp only [lies] at hl
   obtain ⟨b, o, cap, h1, h2, h3, h4, h6, h5⟩ := hl
   have htl := mapO_length ht
   have cells : ∀ (l : List D) (t : List SV) (o : Nat), mapO (dS m) l = some t → lieAt (some base) w b o l → ∀ L : List (Option Loc), ∀ j, j < t.length → ∃ v, w.cell? ⟨b, o + j, none⟩ = some v ∧ rep L (t.getD j .any) v := by
    intro l
    induction l with
    | nil => intro t o ht _ L j hj; simp only [mapO, Option.some.injEq] at ht; subst ht; cases hj
    | cons x l ih =>
     intro t o ht hl L j hj
     simp only [mapO] at ht
     split at ht
     ·rename_i y u hy hu
      simp only [Option.some.injEq] at ht; subst ht
      simp only [lieAt] at hl
      obtain ⟨⟨c, hc1, hc2⟩, hl⟩ := hl
      cases j with
      | zero => exact ⟨c, by simpa using hc1, by simpa using dS_ok L m x y c hy hc2⟩
      | succ j =>
       obtain ⟨c', h6, h7⟩ := ih u (o + 1) hu hl L j (by simpa using hj)
       exact ⟨c', by rw [← h6]; congr 2; omega, by simpa using h7⟩
     ·cases ht
   obtain ⟨g1, g2⟩ := holds_row (con := .agg t) h2 (by simp only [SV.len, htl]; exact h6) (h5 base rfl) (fun L j hj => by simpa [SV.cell] using cells l t o ht h4 L j (by simpa [SV.len] using hj)) rfl
   refine ⟨⟨b, o, cap * z⟩, g1, g2, fun L hL => ?_⟩
   simp only [rep]
   exact ⟨_, cap, hL, h3, by simp, by rw [h1]; simp⟩
  ·cases h
 ·split at h
  ·rename_i s' hs
   simp only [Option.some.injEq, Prod.mk.injEq] at h
   obtain ⟨rfl, rfl⟩ := h
   exact fun L => dS_ok L m d _ v hs hl
  ·cases h
theorem reflectL_ok {k m : Nat} {base : Nat} {w : World} : ∀ {l : List D} {t : List SV} {row : Option SV} {vs : List Value}, reflectL k m l = some (t, row) → lie (some base) w l vs → Gives base w k (fun L => reps L t vs) row
 | [], t, row, vs, h, hl => by
  simp only [reflectL, Option.some.injEq, Prod.mk.injEq] at h
  obtain ⟨rfl, rfl⟩ := h
  simp only [lie] at hl; subst hl
  intro L; simp only [reps]
 | d :: l, t, row, vs, h, hl => by
  simp only [lie] at hl
  obtain ⟨v, vt, rfl, hv, hl⟩ := hl
  simp only [reflectL] at h
  split at h
  ·rename_i s t' r' h1 h2
   simp only [Option.some.injEq, Prod.mk.injEq] at h
   obtain ⟨rfl, rfl⟩ := h
   have g1 := reflect1_ok h1 hv
   have g2 := reflectL_ok h2 hl
   cases r' with
   | none => intro L; simp only [reps]; exact ⟨v, vt, rfl, g1 L, g2 L⟩
   | some c =>
    obtain ⟨o, o1, o2, o3⟩ := g2
    exact ⟨o, o1, o2, fun L hL => by simp only [reps]; exact ⟨v, vt, rfl, g1 L, o3 L hL⟩⟩
  ·rename_i s c t' h1 h2
   simp only [Option.some.injEq, Prod.mk.injEq] at h
   obtain ⟨rfl, rfl⟩ := h
   obtain ⟨o, o1, o2, o3⟩ := reflect1_ok h1 hv
   have g2 := reflectL_ok h2 hl
   exact ⟨o, o1, o2, fun L hL => by simp only [reps]; exact ⟨v, vt, rfl, o3 L hL, g2 L⟩⟩
  ·cases h
theorem reflect_ok {k m : Nat} {d : D} {s : SV} {row : Option SV} {base : Nat} {w : World} {v : Value} (h : reflect k m d = some (s, row)) (hl : lies (some base) w d v) : Gives base w k (fun L => rep L s v) row := by
 unfold reflect at h
 split at h
 ·rename_i l
  split at h
  ·rename_i t r ht
   simp only [Option.some.injEq, Prod.mk.injEq] at h
   obtain ⟨rfl, rfl⟩ := h
   simp only [lies] at hl
   obtain ⟨cs, rfl, hl⟩ := hl
   have g := reflectL_ok ht hl
   cases r with
   | none => intro L; simp only [rep]; exact ⟨cs, rfl, g L⟩
   | some c =>
    obtain ⟨o, o1, o2, o3⟩ := g
    exact ⟨o, o1, o2, fun L hL => by simp only [rep]; exact ⟨cs, rfl, o3 L hL⟩⟩
  ·cases h
 ·rename_i l
  split at h
  ·rename_i t r ht
   simp only [Option.some.injEq, Prod.mk.injEq] at h
   obtain ⟨rfl, rfl⟩ := h
   simp only [lies] at hl
   obtain ⟨cs, rfl, hl⟩ := hl
   have g := reflectL_ok ht hl
   cases r with
   | none => intro L; simp only [rep]; exact ⟨cs, rfl, g L⟩
   | some c =>
    obtain ⟨o, o1, o2, o3⟩ := g
    exact ⟨o, o1, o2, fun L hL => by simp only [rep]; exact ⟨cs, rfl, o3 L hL⟩⟩
  ·cases h
 ·exact reflect1_ok h hl
abbrev Table := Nat → Option Spec
def TableOK (P : Program) (G : List (Nat × SV)) (sp : Table) : Prop := ∀ f s, sp f = some s → Sound P G f s
def evCall (sp : Table) (ρ : Operand → SV) (rows : Rows) (k : Nat) (c : Call) (K : OpK D) : Option D :=
 match c.callee with
 | .value f => match ρ f with
  | .clo fid caps => match sp fid with
   | some s => match mapO (reifyU false rows 6) (mapSV ρ c.args.toList ++ caps) with
    | some ds => if (mapSV ρ c.args.toList ++ caps).all (okR rows 6) = true then s ds fun d => match reflect k 6 d with
     | some (sv, row) => K sv row
     | none => none
     else none
    | none => none
   | none => none
  | _ => none
 | _ => none
theorem Goes.call {P : Program} {o : Oper} {a : Act} {w : World} {R : Value → World → Prop} {f : FuncId} {args : Array Value} (h : (execOp a.eval o).run P w = .ok (.enter f args) w)
  (hc : Calls P f args w fun e w' => ∃ v, e = .returned v ∧ R v w') : Goes P o a w R := by
 intro next Q hn
 unfold Oper.wp
 rw [h, Oper.upon_enter]
 exact hc.mono fun e w' ⟨v, he, hr⟩ => by subst he; exact hn v w' hr
theorem reps_append {L : List (Option Loc)} : ∀ {l m : List SV} {vs us : List Value}, reps L l vs → reps L m us → reps L (l ++ m) (vs ++ us)
 | [], m, vs, us, h, h' => by simp only [reps] at h; subst h; simpa using h'
 | s :: l, m, vs, us, h, h' => by
  simp only [reps] at h
  obtain ⟨v, t, rfl, hv, h⟩ := h
  simp only [List.cons_append, reps]
  exact ⟨v, _, rfl, hv, reps_append h h'⟩
theorem Glob.grow {G : List (Nat × SV)} {w w' : World} (h : Glob G w) (hb : Below w.heap.size w w') : Glob G w' := by
 intro g c hm
 obtain ⟨h1, h2⟩ := h g c hm
 exact ⟨Nat.lt_of_lt_of_le h1 hb.size, fun j hj => let ⟨v, h3, h4⟩ := h2 j hj; ⟨v, by rw [hb.cell (p := ⟨g, j, none⟩) h1]; exact h3, h4⟩⟩
theorem evCall_ok {P : Program} {G : List (Nat × SV)} {ρ : Operand → SV} {rows : Rows} {k : Nat} {sp : Table} (hsp : TableOK P G sp) {c : Call} {K : OpK D} {r : D} (h : evCall sp ρ rows k c K = some r) :
  ∃ s row, K s row = some r ∧ QGo P G ρ rows k (.call c) s row := by
 unfold evCall at h
 split at h
 ·rename_i f hf
  split at h
  ·rename_i fid caps hclo
   split at h
   ·rename_i s hs
    split at h
    ·rename_i ds hds0
     split at h
     case isFalse => cases h
     rename_i hall
     have hds := mapO_congr (reifyU_ok 6) hds0 hall
     obtain ⟨d, hd, hgo⟩ := hsp fid s hs ds _ r h
     split at hd
     ·rename_i sv row hrow
      refine ⟨sv, row, hd, fun w0 o ho L a w rows' hρ hw hsub hk hG _ => ?_⟩
      have hcl := hρ f (by simp [Op.operands, Call.operands, hf])
      rw [hclo] at hcl
      simp only [rep] at hcl
      obtain ⟨cs, hfv, hcs⟩ := hcl
      have hargs : reps L (mapSV ρ c.args.toList ++ caps) (c.args.toList.map a.eval ++ cs) :=
       reps_append (mapSV_rep _ fun x hx => hρ x (by simp only [Op.operands, Call.operands, Array.mem_append]; exact .inr (Array.mem_toList_iff.1 hx))) hcs
      -- the rows that evCall read are those of rows'
      have lieArgs : lie none w ds (c.args.toList.map a.eval ++ cs) := by
       exact lie_of (f := reify false rows 6) (fun s d v h1 h2 => reify_ok (hw.see hsub) 6 s d v h1 h2) hds hargs
      have hrun : (execOp a.eval o).run P w = (callFunc fid ⟨c.args.toList.map a.eval ++ cs⟩).run P w := by
       have e1 : c.args.map a.eval ++ (⟨cs⟩ : Array Value) = ⟨c.args.toList.map a.eval ++ cs⟩ := by
        apply Array.ext'; simp
       simp only [execOp, ho, resolve, hf, hfv, Deferred.ofValue]
       simp only [Sem.run_bind, Sem.run_pure, Result.andThen_ok, invoke, Array.empty_append, e1]
      have fin : ∀ (v : Value) (w' : World), Below w.heap.size w w' → lies (some w.heap.size) w' d v → ∃ L', Ext k L L' ∧ rep L' sv v ∧ RowsOK w0 L' (setRow rows' k row) w' := by
       intro v w' hb hl
       have g := reflect_ok hrow hl
       cases row with
       | none => exact ⟨L, Ext.refl k L, g L, hw.grow hb⟩
       | some con =>
        obtain ⟨lc, o1, o2, o3⟩ := g
        obtain ⟨hk1, hk2⟩ := hk (by simp)
        exact ⟨_, Ext.set hk2 lc, o3 _ (lo_set_self (by rw [hw.size]; exact hk1)), hw.fill hb hk1 hk2 o1 (o2 L)⟩
      rcases hgo w _ (hG.grow ⟨hw.below.os, hw.below.tape, hw.below.output, hw.below.size, hw.below.block⟩) lieArgs with ⟨v, w', h1, h2, h3⟩ | ⟨h1, h2⟩
      ·exact Goes.value (by rw [hrun]; exact h1) (fin v w' h2 h3)
      ·refine Goes.call (by rw [hrun]; exact h1) ?_
       exact Calls.mono h2 fun e w' ⟨v, he, hb, hl⟩ => ⟨v, he, fin v w' hb hl⟩
     ·cases hd
    ·cases h
   ·cases h
  ·cases h
 ·cases h
end Go.Ev
namespace Go.Ev
open Go.RowKit
section
variable {w0 w w' : World} {L : List (Option Loc)} {rows : Rows}
theorem lo_ext' {k r : Nat} {o : Loc} (ho : lo L r = some o) (hk : lo L k = none ∨ k = r) : ∀ (s : Nat) (p : Loc), lo L s = some p → lo (L.set k (some o)) s = some p := by
 intro s p h
 rcases hk with hk | rfl
 ·exact lo_ext hk s p h
 ·by_cases e : s = k
  ·subst e
   rw [ho] at h; cases h
   exact lo_set_self (by
    unfold lo at ho
    rcases Nat.lt_or_ge s L.length with h' | h'
    ·exact h'
    ·rw [List.getElem?_eq_none h'] at ho; cases ho)
  ·rw [lo_set_ne e]; exact h
theorem RowsOK.rewrite (h : RowsOK w0 L rows w) {r k : Nat} {row : Row} {o : Loc} (hr : rows[r]? = some (some row)) (ho : lo L r = some o) (own : row.own = true) (hk : k < rows.length) (hfree : lo L k = none ∨ k = r)
  (hbelow : Below w0.heap.size w0 w') (hsize : w'.heap.size = w.heap.size) (hother : ∀ b, b ≠ o.blk → w'.heap[b]? = w.heap[b]?) {con' : SV} (hrow : RowOK L o ⟨con', true⟩ w') :
  RowsOK w0 (L.set k (some o)) ((rows.set r none).set k (some ⟨con', true⟩)) w' := by
 have hk' : k < L.length := by rw [h.size]; exact hk
 have hL := lo_ext' (k := k) ho hfree
 have hset : ∀ (s : Nat) (row' : Row), ((rows.set r none).set k (some ⟨con', true⟩))[s]? = some (some row') → (s = k ∧ row' = ⟨con', true⟩) ∨ (s ≠ k ∧ s ≠ r ∧ rows[s]? = some (some row')) := by
  intro s row' hs
  rcases set_cases hs with ⟨e1, e2⟩ | ⟨e1, e2⟩
  ·cases e2; exact .inl ⟨e1, rfl⟩
  ·rcases set_cases e2 with ⟨_, e3⟩ | ⟨e3, e4⟩
   ·cases e3
   ·exact .inr ⟨e1, e3, e4⟩
 have sepo : ∀ (s : Nat) (row' : Row) (p : Loc), s ≠ r → rows[s]? = some (some row') → lo L s = some p → p.blk ≠ o.blk := fun s row' p hne h1 h2 e => h.sep r s row row' o p (fun e => hne e.symm) hr h1 ho h2 own e.symm
 refine ⟨hbelow, by simp [h.size], ?_, ?_, ?_, ?_⟩
 ·intro s row' h1
  rcases hset s row' h1 with ⟨rfl, rfl⟩ | ⟨hne, hnr, h1'⟩
  ·exact ⟨o, lo_set_self hk'⟩
  ·rw [lo_set_ne hne]; exact h.has s row' h1'
 ·intro s row' p h1 h2
  rcases hset s row' h1 with ⟨rfl, rfl⟩ | ⟨hne, hnr, h1'⟩
  ·rw [lo_set_self hk'] at h2; cases h2
   exact hrow.mono hL
  ·rw [lo_set_ne hne] at h2
   have ok := h.row s row' p h1' h2
   exact (ok.of_block (by rw [hsize]; exact ok.blk) (hother _ (sepo s row' p hnr h1' h2))).mono hL
 ·intro a b ra rb p q hab h1 h2 h3 h4 h5
  rcases hset a ra h1 with ⟨rfl, rfl⟩ | ⟨hna, hnar, h1'⟩ <;> rcases hset b rb h2 with ⟨e2, rfl⟩ | ⟨hnb, hnbr, h2'⟩
  ·exact absurd e2.symm hab
  ·rw [lo_set_self hk'] at h3; cases h3
   rw [lo_set_ne hnb] at h4
   exact fun e => sepo b rb q hnbr h2' h4 e.symm
  ·subst e2
   rw [lo_set_self hk'] at h4; cases h4
   rw [lo_set_ne hna] at h3
   exact sepo a ra p hnar h1' h3
  ·rw [lo_set_ne hna] at h3
   rw [lo_set_ne hnb] at h4
   exact h.sep a b ra rb p q hab h1' h2' h3 h4 h5
 ·intro a ra p h1 h2 h3
  rcases hset a ra h1 with ⟨rfl, rfl⟩ | ⟨hna, hnar, h1'⟩
  ·rw [lo_set_self hk'] at h2; cases h2
   exact h.new r row o hr ho own
  ·rw [lo_set_ne hna] at h2
   exact h.new a ra p h1' h2 h3
theorem setCells_size (b : Nat) : ∀ (vs : List Value) (o : Nat) (w : World), (w.setCells b o vs).heap.size = w.heap.size
 | [], _, _ => rfl
 | v :: r, o, w => by rw [World.setCells, setCells_size b r]; simp
theorem setCells_other (b : Nat) : ∀ (vs : List Value) (o : Nat) (w : World) (c : Nat), c ≠ b → (w.setCells b o vs).heap[c]? = w.heap[c]?
 | [], _, _, _, _ => rfl
 | v :: r, o, w, c, h => by rw [World.setCells, setCells_other b r _ _ c h, heap_setCell_other w ⟨b, o, none⟩ c v h]
theorem setCells_below {B : Nat} (b : Nat) (hb : B ≤ b) : ∀ (vs : List Value) (o : Nat) (w : World), Below B w0 w → Below B w0 (w.setCells b o vs)
 | [], _, _, h => h
 | v :: r, o, w, h => by rw [World.setCells]; exact setCells_below b hb r _ _ (h.setCell (p := ⟨b, o, none⟩) hb v)
theorem RowOK.wrote {o : Loc} {row : Row} (ok : RowOK L o row w) (own : row.own = true) {off : Nat} {vs : List Value} (hfit : off + vs.length ≤ o.size) {con' : SV} (hi : con'.isit = false) (hlen : con'.len ≤ o.size)
  (hc : ∀ j, j < con'.len → (off ≤ j ∧ j < off + vs.length ∧ ∃ v, vs[j - off]? = some v ∧ rep L (con'.cell j) v) ∨ ((j < off ∨ off + vs.length ≤ j) ∧ j < row.con.len ∧ con'.cell j = row.con.cell j)) :
  RowOK L o ⟨con', true⟩ (w.setCells o.blk (o.base + off) vs) := by
 have some' : ∀ j, j < vs.length → (w.cell? ⟨o.blk, o.base + off + j, none⟩).isSome = true := by
  intro j hj
  obtain ⟨v, hv⟩ := ok.all own (off + j) (by omega)
  rw [Nat.add_assoc, hv]; rfl
 have inn : ∀ j (hj : j < vs.length), (w.setCells o.blk (o.base + off) vs).cell? ⟨o.blk, o.base + (off + j), none⟩ = some vs[j] := by
  intro j hj
  rw [← Nat.add_assoc]; exact World.cell?_setCells_in o.blk vs (o.base + off) w some' j hj
 have out : ∀ j, (j < off ∨ off + vs.length ≤ j) → (w.setCells o.blk (o.base + off) vs).cell? ⟨o.blk, o.base + j, none⟩ = w.cell? ⟨o.blk, o.base + j, none⟩ := by
  intro j hj
  refine World.cell?_setCells_out o.blk vs (o.base + off) w _ fun _ _ => ?_
  simp only []; omega
 refine ⟨hlen, by rw [setCells_size]; exact ok.blk, fun j hj => ?_, fun _ j hj => ?_, fun _ j hj => ?_, fun s p hs => by simp only [] at hs; rw [hs] at hi; cases hi⟩
 ·rcases hc j hj with ⟨h1, h2, v, h3, h4⟩ | ⟨h1, h2, h3⟩
  ·have hj' : j - off < vs.length := by omega
   have := inn (j - off) hj'
   rw [show off + (j - off) = j by omega] at this
   refine ⟨v, ?_, h4⟩
   rw [this, ← h3]; simp [hj']
  ·obtain ⟨v, h4, h5⟩ := ok.cell j h2
   exact ⟨v, by rw [out j h1]; exact h4, by simp only [] at h3 ⊢; rw [h3]; exact h5⟩
 ·by_cases hj' : off ≤ j ∧ j < off + vs.length
  ·have := inn (j - off) (by omega)
   rw [show off + (j - off) = j by omega] at this
   exact ⟨_, this⟩
  ·rw [out j (by omega)]; exact ok.all own j hj
 ·rw [World.frozen?_setCells]; exact ok.free own j hj
end
def scalS : SV → Bool
 | .any | .agg _ | .ai _ _ | .a8 _ | .a64 _ | .tup _ => false
 | .c (.agg _) => false
 | .c (.tuple _) => false
 | _ => true
theorem scalS_one {L : List (Option Loc)} {s : SV} {v : Value} (h : scalS s = true) (hr : rep L s v) : v.oneCell' = true ∧ v.cells = #[v] := by
 cases s <;> simp only [scalS, Bool.false_eq_true] at h <;> simp only [rep] at hr
 case c u => subst hr; cases v <;> first | exact ⟨rfl, rfl⟩ | simp only [Bool.false_eq_true] at h
 case nan => obtain ⟨x, rfl, _⟩ := hr; exact ⟨rfl, rfl⟩
 case xi => obtain ⟨x, rfl, _⟩ := hr; exact ⟨rfl, rfl⟩
 case xf => obtain ⟨x, rfl, _⟩ := hr; exact ⟨rfl, rfl⟩
 case xs => obtain ⟨_, _, _, rfl⟩ := hr; exact ⟨rfl, rfl⟩
 case sl => obtain ⟨_, x, _, _, _, rfl⟩ := hr; exact ⟨rfl, rfl⟩
 case slm => obtain ⟨_, x, _, _, _, rfl⟩ := hr; exact ⟨rfl, rfl⟩
 case clo => obtain ⟨x, rfl, _⟩ := hr; exact ⟨rfl, rfl⟩
 case ptr => obtain ⟨_, _, rfl⟩ := hr; exact ⟨rfl, rfl⟩
 all_goals (subst hr; exact ⟨rfl, rfl⟩)
def allScal : List SV → Bool
 | [] => true
 | s :: l => scalS s && allScal l
def storeAgg (con : SV) (off n : Nat) (s : SV) (K : SV → Option D) : Option D :=
 match con, s with
 | .agg l, .agg m => if off + m.length ≤ l.length ∧ m.length = n ∧ allScal m = true then K (.agg (setAllS l off m)) else none
 | .ai k l, .ai k' m => match off with | 0 => if k = k' then if l.length = n then if m.length = n then K (.ai k m) else none else none else none | _ + 1 => none
 | .a8 l, .a8 m => match off with | 0 => if l.length = n then if m.length = n then K (.a8 m) else none else none | _ + 1 => none
 | .a64 l, .a64 m => match off with | 0 => if l.length = n then if m.length = n then K (.a64 m) else none else none | _ + 1 => none
 | .a64 l, .agg m => if off + m.length ≤ (l.map SV.u64).length ∧ m.length = n ∧ allScal m = true then K (.agg (setAllS (l.map SV.u64) off m)) else none
 | .agg l, .a8 m => if off + m.length ≤ l.length ∧ m.length = n then K (.agg (setAllS l off (m.map SV.u8))) else none
 | _, _ => none
def evStore (P : Program) (rows : Rows) (t : TypeId) (x s : SV) (K : Rows → Option D) : Option D :=
 match x with
 | .ptr r off => match rows[r]? with
  | some (some row) => if row.own then
    match P.underlying t, sizeT P t with
    | some d, some n => if isAggD d then storeAgg row.con off n s (fun con' => K (rows.set r (some ⟨con', true⟩)))
      else if n = 1 ∧ scalS s = true then if off < row.con.len then match row.con.setCell off s with
       | some con' => K (rows.set r (some ⟨con', true⟩))
       | none => none else none else none
    | _, _ => none
   else none
  | _ => none
 | _ => none
def SGo (P : Program) (ρ : Operand → SV) (rows : Rows) (k : Nat) (op : Op) (s : SV) (rows' : Rows) : Prop :=
 ∀ (w0 : World) (o : Oper), o.op = op → ∀ (L : List (Option Loc)) (a : Act) (w : World), (∀ x ∈ op.operands, rep L (ρ x) (a.eval x)) → RowsOK w0 L rows w → k < rows.length → lo L k = none → a.defers = [] →
  Goes P o a w (fun v w' => ∃ L', Ext k L L' ∧ rep L' s v ∧ RowsOK w0 L' rows' w')
section
variable {P : Program} {w0 : World} {ρ : Operand → SV} {rows : Rows} {k : Nat}
theorem setAllS_len : ∀ (us : List SV) (l : List SV) (o : Nat), (setAllS l o us).length = l.length
 | [], _, _ => rfl
 | u :: us, l, o => by simp only [setAllS]; rw [setAllS_len us]; simp
theorem setAllS_get : ∀ (us : List SV) (l : List SV) (o j : Nat), o + us.length ≤ l.length → j < l.length → (setAllS l o us).getD j .any = if o ≤ j ∧ j < o + us.length then us.getD (j - o) .any else l.getD j .any
 | [], l, o, j, _, _ => by rw [if_neg (by simp)]; rfl
 | u :: us, l, o, j, h, hj => by
  simp only [setAllS]
  rw [setAllS_get us (l.set o u) (o + 1) j (by simp at h ⊢; omega) (by simpa using hj)]
  simp only [List.length_cons] at h ⊢
  by_cases h1 : j = o
  ·subst h1
   rw [if_neg (by omega), if_pos (by omega)]
   simp [List.getD_eq_getElem?_getD, hj]
  ·have hne : o ≠ j := fun e => h1 e.symm
   by_cases h2 : o + 1 ≤ j ∧ j < o + 1 + us.length
   ·rw [if_pos h2, if_pos (by omega)]
    rw [show j - o = (j - (o + 1)) + 1 by omega]; simp
   ·rw [if_neg h2, if_neg (by omega)]
    simp [List.getD_eq_getElem?_getD, hne]
theorem storeAgg_ok {con : SV} {off n : Nat} {s : SV} {K : SV → Option D} {r : D} (h : storeAgg con off n s K = some r) : ∃ con', K con' = some r ∧ con'.len = con.len ∧ con'.isit = false ∧ off + n ≤ con.len ∧
  ∀ L v, rep L s v → ∃ cs : List Value, v = .agg ⟨cs⟩ ∧ cs.length = n ∧ (∀ u ∈ cs, u.oneCell' = true) ∧
   ∀ j, j < con.len → (off ≤ j ∧ j < off + n ∧ ∃ u, cs[j - off]? = some u ∧ rep L (con'.cell j) u) ∨ ((j < off ∨ off + n ≤ j) ∧ con'.cell j = con.cell j) := by
 unfold storeAgg at h
 split at h
 ·rename_i l m
  split at h
  ·rename_i hb
   obtain ⟨h1, h2, h3⟩ := hb
   refine ⟨_, h, by simp [SV.len, setAllS_len], rfl, by simp only [SV.len]; omega, fun L v hr => ?_⟩
   simp only [rep] at hr
   obtain ⟨cs, rfl, hcs⟩ := hr
   have hl := reps_length hcs
   refine ⟨cs, rfl, by omega, ?_, fun j hj => ?_⟩
   ·have : ∀ (m : List SV) (cs : List Value), allScal m = true → reps L m cs → ∀ u ∈ cs, u.oneCell' = true := by
     intro m
     induction m with
     | nil => intro cs _ hr u hu; simp only [reps] at hr; subst hr; cases hu
     | cons x m ih =>
      intro cs ha hr u hu
      simp only [allScal, Bool.and_eq_true] at ha
      simp only [reps] at hr
      obtain ⟨v, t, rfl, hv, hr⟩ := hr
      rcases List.mem_cons.1 hu with rfl | hu
      ·exact (scalS_one ha.1 hv).1
      ·exact ih t ha.2 hr u hu
    exact this m cs h3 hcs
   ·simp only [SV.len] at hj
    simp only [SV.cell]
    rw [setAllS_get m l off j h1 hj]
    by_cases hc : off ≤ j ∧ j < off + m.length
    ·left
     rw [if_pos hc]
     obtain ⟨u, h5, h6⟩ := reps_get hcs (j - off) (by omega)
     exact ⟨hc.1, by omega, u, h5, h6⟩
    ·right
     rw [if_neg hc]
     exact ⟨by omega, rfl⟩
  ·cases h
 ·rename_i q l q' m
  split at h
  ·split at h
   ·rename_i e; subst e
    split at h
    ·rename_i hl
     split at h
     ·rename_i hm
      refine ⟨_, h, by simp [SV.len]; omega, rfl, by simp [SV.len]; omega, fun L v hr => ?_⟩
      simp only [rep] at hr; subst hr
      refine ⟨m.map (vi q), rfl, by simpa using hm, fun u hu => ?_, fun j hj => .inl ⟨Nat.zero_le _, by simp only [SV.len] at hj; omega, vi q (m.getD j 0), ?_, by simp only [SV.cell, rep, vi]⟩⟩
      ·obtain ⟨x, _, rfl⟩ := List.mem_map.1 hu; rfl
      ·have : j < m.length := by simp only [SV.len] at hj; omega
       simp [this]
     ·cases h
    ·cases h
   ·cases h
  ·cases h
 ·rename_i l m
  split at h
  ·split at h
   ·rename_i hl
    split at h
    ·rename_i hm
     refine ⟨_, h, by simp [SV.len]; omega, rfl, by simp [SV.len]; omega, fun L v hr => ?_⟩
     simp only [rep] at hr; subst hr
     refine ⟨m.map v8, rfl, by simpa using hm, fun u hu => ?_, fun j hj => .inl ⟨Nat.zero_le _, by simp only [SV.len] at hj; omega, v8 (m.getD j 0), ?_, by simp only [SV.cell, rep, v8]⟩⟩
     ·obtain ⟨x, _, rfl⟩ := List.mem_map.1 hu; rfl
     ·have : j < m.length := by simp only [SV.len] at hj; omega
      simp [this]
    ·cases h
   ·cases h
  ·cases h
 ·rename_i l m
  split at h
  ·split at h
   ·rename_i hl
    split at h
    ·rename_i hm
     refine ⟨_, h, by simp [SV.len]; omega, rfl, by simp [SV.len]; omega, fun L v hr => ?_⟩
     simp only [rep] at hr; subst hr
     refine ⟨m.map v64, rfl, by simpa using hm, fun u hu => ?_, fun j hj => .inl ⟨Nat.zero_le _, by simp only [SV.len] at hj; omega, v64 (m.getD j 0), ?_, by simp only [SV.cell, rep, v64]⟩⟩
     ·obtain ⟨x, _, rfl⟩ := List.mem_map.1 hu; rfl
     ·have : j < m.length := by simp only [SV.len] at hj; omega
      simp [this]
    ·cases h
   ·cases h
  ·cases h
 ·rename_i l m
  split at h
  ·rename_i hb
   obtain ⟨h1, h2, h3⟩ := hb
   refine ⟨_, h, by simp [SV.len, setAllS_len], rfl, by simp only [SV.len]; simp only [List.length_map] at h1; omega, fun L v hr => ?_⟩
   simp only [rep] at hr
   obtain ⟨cs, rfl, hcs⟩ := hr
   have hl := reps_length hcs
   refine ⟨cs, rfl, by omega, ?_, fun j hj => ?_⟩
   ·have : ∀ (m : List SV) (cs : List Value), allScal m = true → reps L m cs → ∀ u ∈ cs, u.oneCell' = true := by
     intro m
     induction m with
     | nil => intro cs _ hr u hu; simp only [reps] at hr; subst hr; cases hu
     | cons x m ih =>
      intro cs ha hr u hu
      simp only [allScal, Bool.and_eq_true] at ha
      simp only [reps] at hr
      obtain ⟨v, t, rfl, hv, hr⟩ := hr
      rcases List.mem_cons.1 hu with rfl | hu
      ·exact (scalS_one ha.1 hv).1
      ·exact ih t ha.2 hr u hu
    exact this m cs h3 hcs
   ·simp only [SV.len] at hj
    have hcell : (l.map SV.u64).getD j .any = .u64 (l.getD j 0) := by simp [List.getD_eq_getElem?_getD, hj]
    simp only [SV.cell]
    rw [setAllS_get m (l.map SV.u64) off j h1 (by simpa using hj), ← hcell]
    by_cases hc : off ≤ j ∧ j < off + m.length
    ·left
     rw [if_pos hc]
     obtain ⟨u, h5, h6⟩ := reps_get hcs (j - off) (by omega)
     exact ⟨hc.1, by omega, u, h5, h6⟩
    ·right
     rw [if_neg hc]
     exact ⟨by omega, rfl⟩
  ·cases h
 ·rename_i l m
  split at h
  ·rename_i hb
   obtain ⟨h1, h2⟩ := hb
   refine ⟨_, h, by simp [SV.len, setAllS_len], rfl, by simp only [SV.len]; omega, fun L v hr => ?_⟩
   simp only [rep] at hr
   subst hr
   refine ⟨m.map v8, rfl, by simpa using h2, ?_, fun j hj => ?_⟩
   ·intro u hu
    obtain ⟨x, _, rfl⟩ := List.mem_map.1 hu
    rfl
   ·simp only [SV.len] at hj
    simp only [SV.cell]
    rw [setAllS_get (m.map SV.u8) l off j (by simpa using h1) hj]
    by_cases hc : off ≤ j ∧ j < off + (m.map SV.u8).length
    ·left
     rw [if_pos hc]
     have hm : j - off < m.length := by simp only [List.length_map] at hc; omega
     refine ⟨hc.1, by simp only [List.length_map] at hc; omega, v8 (m.getD (j - off) 0), by simp [hm], ?_⟩
     have e : (m.map SV.u8).getD (j - off) .any = SV.u8 (m.getD (j - off) 0) := by simp [List.getD_eq_getElem?_getD, hm]
     rw [e]
     simp only [rep, v8]
    ·right
     rw [if_neg hc]
     simp only [List.length_map] at hc
     exact ⟨by omega, rfl⟩
  ·cases h
 ·cases h
theorem set_none_set {rows : Rows} {r : Nat} {x : Option Row} : (rows.set r none).set r x = rows.set r x := by simp
theorem lset_self {L : List (Option Loc)} {r : Nat} {o : Loc} (h : lo L r = some o) : L.set r (some o) = L := by
 unfold lo at h
 apply List.ext_getElem?
 intro i
 rw [List.getElem?_set]
 split
 ·rename_i e; subst e
  split
  ·cases hr : L[r]? with
   | none => rw [hr] at h; cases h
   | some x => rw [hr] at h; simp at h; rw [h]
  ·rename_i hlt
   rw [List.getElem?_eq_none (by omega)]
 ·rfl
theorem evStore_ok {t : TypeId} {x y : Operand} {K : Rows → Option D} {r : D} (h : evStore P rows t (ρ x) (ρ y) K = some r) : ∃ rows', K rows' = some r ∧ rows'.length = rows.length ∧ SGo P ρ rows k (.store t x y) .any rows' := by
 unfold evStore at h
 split at h
 ·rename_i n off hx
  split at h
  ·rename_i row hrow
   split at h
   ·rename_i hown
    split at h
    ·rename_i d sz hd hsz
     split at h
     ·rename_i hagg
      obtain ⟨con', hK, hlen, hnit, hfit, hst⟩ := storeAgg_ok h
      refine ⟨_, hK, by simp, fun w0 o ho L a w hρ hw hk hlk _ => ?_⟩
      have hr := hρ x (by simp [Op.operands])
      rw [hx] at hr
      simp only [rep] at hr
      obtain ⟨lc, hlc, hv⟩ := hr
      obtain ⟨cs, hv2, hcl, hone, hcell⟩ := hst L _ (hρ y (by simp [Op.operands]))
      have ok := hw.row n row lc hrow hlc
      have hnlt : n < rows.length := by
       rcases Nat.lt_or_ge n rows.length with h' | h'
       ·exact h'
       ·rw [List.getElem?_eq_none h'] at hrow; cases hrow
      have rowok : RowOK L lc ⟨con', true⟩ (w.setCells lc.blk (lc.base + off) cs) := ok.wrote hown (by rw [hcl]; have := ok.len; omega) hnit (by rw [hlen]; exact ok.len) fun j hj => by
       rw [hlen] at hj
       rcases hcell j hj with ⟨h1, h2, u, h3, h4⟩ | ⟨h1, h2⟩
       ·exact .inl ⟨h1, by omega, u, h3, h4⟩
       ·exact .inr ⟨by omega, hj, h2⟩
      have hw' := hw.rewrite hrow hlc hown hnlt (.inr rfl) (setCells_below (w0 := w0) lc.blk (hw.new n row lc hrow hlc hown) cs (lc.base + off) w hw.below) (setCells_size _ _ _ _) (fun b hb => setCells_other _ _ _ _ b hb) rowok
      rw [set_none_set, lset_self hlc] at hw'
      refine Goes.skip (w' := w.setCells lc.blk (lc.base + off) cs) ?_ ⟨L, Ext.refl k L, by simp only [rep], hw'⟩
      simp only [execOp, ho, hv, hv2, Instr.storeAt, Instr.sureAddr]
      have hrun : (storeCells ⟨lc.blk, lc.base + off, none⟩ cs).run P w = .ok () (w.setCells lc.blk (lc.base + off) cs) := by
       have := run_storeCells_cells (P := P) lc.blk (lc.base + off) cs 0 w (fun j hj => by
        obtain ⟨v, hv⟩ := ok.all hown (off + j) (by have := ok.len; omega)
        rw [Nat.add_zero, Nat.add_assoc, hv]; rfl) (fun j hj => by
        rw [Nat.add_zero, Nat.add_assoc]; exact ok.free hown (off + j) (by have := ok.len; omega)) hone
       simpa using this
      unfold storeVar
      have hcs : (Value.agg ⟨cs⟩).cells.size = sz := by simpa [Value.cells] using hcl
      simp only [Sem.run_bind, Sem.run_pure, Result.andThen_ok, run_sizeT hsz, hcs, ne_eq, not_true, if_false]
      simp only [Value.cells]
      rw [hrun]; rfl
     ·rename_i hagg
      split at h
      ·rename_i hs1
       obtain ⟨hs1, hscal⟩ := hs1
       subst hs1
       split at h
       ·rename_i hoff
        split at h
        ·rename_i con' hcon
         refine ⟨_, h, by simp, fun w0 o ho L a w hρ hw hk hlk _ => ?_⟩
         have hr := hρ x (by simp [Op.operands])
         rw [hx] at hr
         simp only [rep] at hr
         obtain ⟨lc, hlc, hv⟩ := hr
         have hvy := hρ y (by simp [Op.operands])
         have hw' := hw.store1 hrow hlc hown hoff hcon hvy
         obtain ⟨hone, hcs⟩ := scalS_one hscal hvy
         have ok := hw.row n row lc hrow hlc
         refine Goes.skip (w' := w.setCell ⟨lc.blk, lc.base + off, none⟩ (a.eval y)) ?_ ⟨L, Ext.refl k L, by simp only [rep], hw'⟩
         simp only [execOp, ho, hv, Instr.storeAt, Instr.sureAddr]
         unfold storeVar
         obtain ⟨u, hu⟩ := ok.all hown off (by have := ok.len; omega)
         have hfr := ok.free hown off (by have := ok.len; omega)
         simp only [Sem.run_bind, Sem.run_pure, Result.andThen_ok, run_sizeT hsz, hcs, List.size_toArray, List.length_cons, List.length_nil, Nat.zero_add, ne_eq, not_true, if_false, storeCells, Addr.add_zero']
         rw [run_store P w _ _ _ hone, hu]
         simp [hfr]
        ·cases h
       ·cases h
      ·cases h
    ·cases h
   ·cases h
  ·cases h
 ·cases h
end
end Go.Ev
namespace Go.Ev
open Go.RowKit
def allStr : List SV → Option (List Value)
 | [] => some []
 | .c (.string t) :: l => match allStr l with | some vs => some (.string t :: vs) | none => none
 | _ => none
theorem allStr_eq : ∀ {l : List SV} {vs : List Value}, allStr l = some vs → l = vs.map SV.c ∧ ∀ v ∈ vs, ∃ t, v = .string t
 | [], vs, h => by simp only [allStr, Option.some.injEq] at h; subst h; exact ⟨rfl, fun v hv => (by cases hv)⟩
 | x :: l, vs, h => by
  unfold allStr at h
  split at h
  ·rename_i e; cases e
  ·rename_i t l' e
   cases e
   split at h
   ·rename_i us hus
    cases h
    obtain ⟨e1, e2⟩ := allStr_eq hus
    exact ⟨by rw [e1]; rfl, fun v hv => by
     rcases List.mem_cons.1 hv with rfl | hv
     ·exact ⟨t, rfl⟩
     ·exact e2 v hv⟩
   ·cases h
  ·cases h
theorem allStr_map : ∀ {vs : List Value}, (∀ v ∈ vs, ∃ t, v = .string t) → allStr (vs.map SV.c) = some vs
 | [], _ => rfl
 | v :: vs, h => by
  obtain ⟨t, rfl⟩ := h v List.mem_cons_self
  simp only [List.map_cons, allStr, allStr_map fun v hv => h v (List.mem_cons_of_mem _ hv)]
def partS (con : SV) (off m : Nat) : Option SV :=
 match con with
 | .ai k l => some (.ai k ((l.drop off).take m))
 | .a8 l => some (.a8 ((l.drop off).take m))
 | .a64 l => some (.a64 ((l.drop off).take m))
 | .agg l => match allStr l with | some _ => some (.agg ((l.drop off).take m)) | none => none
 | _ => none
def catS (con : SV) (n : Nat) (con2 : SV) : Option SV :=
 match con, con2 with
 | .ai k l, .ai k' l2 => if k = k' then some (.ai k (l.take n ++ l2)) else none
 | .a8 l, .a8 l2 => some (.a8 (l.take n ++ l2))
 | .a64 l, .a64 l2 => some (.a64 (l.take n ++ l2))
 | .agg l, .agg l2 => match allStr l, allStr l2 with | some _, some _ => some (.agg (l.take n ++ l2)) | _, _ => none
 | _, _ => none
theorem catS_isit {con con2 con' : SV} {n : Nat} (h : catS con n con2 = some con') : con'.isit = false := by
 unfold catS at h
 split at h
 ·split at h
  ·cases h; rfl
  ·cases h
 ·cases h; rfl
 ·cases h; rfl
 ·split at h
  ·cases h; rfl
  ·cases h
 ·cases h
def bytesT (P : Program) (t : TypeId) : Option Nat := (P.info? t).map (·.bytes)
def evAppend (P : Program) (ρ : Operand → SV) (rows : Rows) (k : Nat) (x y : Operand) (t ty : TypeId) (K : SV → Rows → Option D) : Option D :=
 match P.underlying t, P.underlying ty with
 | some (.slice e), some (.slice _) => match P.underlying e, sizeT P e, bytesT P e, zeroT P e with
  | some d, some size, some bytes, some z => if isZero d z && size == 1 && decide (0 < bytes) then
    match ρ y with
    | .sl r2 off2 m => match rows[r2]? with
     | some (some row2) => match partS row2.con off2 m with
      | some con2 => if off2 + m ≤ row2.con.len then
        match ρ x with
        | .c (.slice none 0 0) => if m = 0 then K (ρ x) rows else if m * bytes ≤ 140737488355328 then K (.sl k 0 m) (rows.set k (some ⟨con2, true⟩)) else none
        | .sl r 0 n => match rows[r]? with
         | some (some row) => if row.own && !(r == r2) then match catS row.con n con2 with
           | some con' => if n ≤ row.con.len then if (n + m) * bytes ≤ 140737488355328 then K (.sl k 0 (n + m)) ((rows.set r none).set k (some ⟨con', true⟩)) else none else none
           | none => none
          else none
         | _ => none
        | _ => none
       else none
      | none => none
     | _ => none
    | .c (.slice _ 0 _) => match ρ x with
     | .c (.slice none 0 0) => K (ρ x) rows
     | _ => none
    | _ => none
   else none
  | _, _, _, _ => none
 | _, _ => none
def vals : SV → Option (List Value)
 | .ai k l => some (l.map (vi k))
 | .a8 l => some (l.map v8)
 | .a64 l => some (l.map v64)
 | .agg l => allStr l
 | _ => none
theorem vals_ok {con : SV} {vs : List Value} (h : vals con = some vs) : con.len = vs.length ∧ (∀ v ∈ vs, v.oneCell' = true) ∧ ∀ (L : List (Option Loc)) j u, j < con.len → (rep L (con.cell j) u ↔ vs[j]? = some u) := by
 cases con <;> simp only [vals, reduceCtorEq, Option.some.injEq] at h
 case agg l =>
  obtain ⟨rfl, hs⟩ := allStr_eq h
  refine ⟨by simp [SV.len], fun v hv => ?_, fun L j u hj => ?_⟩
  ·obtain ⟨t, rfl⟩ := hs v hv; rfl
  ·simp only [SV.len, List.length_map] at hj
   simp only [SV.cell, List.getD_eq_getElem?_getD, List.getElem?_map, List.getElem?_eq_getElem hj, Option.map_some, Option.getD_some, rep, Option.some.injEq]
   exact ⟨fun h => h.symm, fun h => h.symm⟩
 all_goals subst h
 ·refine ⟨by simp [SV.len], fun v hv => ?_, fun L j u hj => ?_⟩
  ·obtain ⟨x, _, rfl⟩ := List.mem_map.1 hv; rfl
  ·simp only [SV.len] at hj
   simp only [SV.cell, rep, List.getElem?_map, List.getElem?_eq_getElem hj, Option.map_some, Option.some.injEq, List.getD_eq_getElem?_getD, Option.getD_some, vi]
   exact ⟨fun h => h.symm, fun h => h.symm⟩
 ·refine ⟨by simp [SV.len], fun v hv => ?_, fun L j u hj => ?_⟩
  ·obtain ⟨x, _, rfl⟩ := List.mem_map.1 hv; rfl
  ·simp only [SV.len] at hj
   simp only [SV.cell, rep, List.getElem?_map, List.getElem?_eq_getElem hj, Option.map_some, Option.some.injEq, List.getD_eq_getElem?_getD, Option.getD_some, v8]
   exact ⟨fun h => h.symm, fun h => h.symm⟩
 ·refine ⟨by simp [SV.len], fun v hv => ?_, fun L j u hj => ?_⟩
  ·obtain ⟨x, _, rfl⟩ := List.mem_map.1 hv; rfl
  ·simp only [SV.len] at hj
   simp only [SV.cell, rep, List.getElem?_map, List.getElem?_eq_getElem hj, Option.map_some, Option.some.injEq, List.getD_eq_getElem?_getD, Option.getD_some, v64]
   exact ⟨fun h => h.symm, fun h => h.symm⟩
theorem vals_isit {con : SV} {vs : List Value} (h : vals con = some vs) : con.isit = false := by cases con <;> first | rfl | cases h
theorem partS_ok {con con2 : SV} {off m : Nat} (h : partS con off m = some con2) : ∃ vs, vals con = some vs ∧ vals con2 = some ((vs.drop off).take m) := by
 cases con <;> simp only [partS, reduceCtorEq, Option.some.injEq] at h
 case agg l =>
  split at h
  ·rename_i vs hvs
   cases h
   obtain ⟨rfl, hs⟩ := allStr_eq hvs
   refine ⟨vs, hvs, ?_⟩
   simp only [vals, List.map_drop.symm, List.map_take.symm]
   exact allStr_map fun v hv => hs v (List.mem_of_mem_drop (List.mem_of_mem_take hv))
  ·cases h
 all_goals (subst h; exact ⟨_, rfl, by simp [vals]⟩)
theorem catS_ok {con con2 con' : SV} {n : Nat} (h : catS con n con2 = some con') : ∃ vs us, vals con = some vs ∧ vals con2 = some us ∧ vals con' = some (vs.take n ++ us) := by
 unfold catS at h
 split at h
 ·split at h
  ·rename_i e; subst e
   simp only [Option.some.injEq] at h; subst h
   exact ⟨_, _, rfl, rfl, by simp [vals]⟩
  ·cases h
 ·simp only [Option.some.injEq] at h; subst h; exact ⟨_, _, rfl, rfl, by simp [vals]⟩
 ·simp only [Option.some.injEq] at h; subst h; exact ⟨_, _, rfl, rfl, by simp [vals]⟩
 ·split at h
  ·rename_i vs us hvs hus
   cases h
   obtain ⟨rfl, hs⟩ := allStr_eq hvs
   obtain ⟨rfl, hs2⟩ := allStr_eq hus
   refine ⟨vs, us, hvs, hus, ?_⟩
   simp only [vals, List.map_take.symm, List.map_append.symm]
   exact allStr_map fun v hv => (List.mem_append.1 hv).elim (fun hv => hs v (List.mem_of_mem_take hv)) (hs2 v)
  ·cases h
 ·cases h
theorem isZero_cells {d : TypeDesc} {z : Value} (h : isZero d z = true) : z.cells.size = 1 := by
 unfold isZero at h
 split at h <;> first | rfl | cases h
section
variable {P : Program} {w0 : World} {ρ : Operand → SV} {rows : Rows} {k : Nat}
theorem RowsOK.alloc' {w : World} {L : List (Option Loc)} (h : RowsOK w0 L rows w) (hk : k < rows.length) (hfree : lo L k = none) (cells : Array Value) (ty : TypeId) {con : SV} (hl : con.len ≤ cells.size)
  (hc : ∀ j, j < con.len → ∃ u, cells[j]? = some u ∧ rep L (con.cell j) u) (hi : con.isit = false) :
  RowsOK w0 (L.set k (some ⟨w.heap.size, 0, cells.size⟩)) (rows.set k (some ⟨con, true⟩)) (w.alloc (.cells cells ty)) := by
 have cellnew : ∀ j, (w.alloc (.cells cells ty)).cell? ⟨w.heap.size, 0 + j, none⟩ = cells[j]? := by
  intro j; rw [Nat.zero_add]; exact World.cell?_alloc_new w cells ty j
 refine h.fill ((Below.refl _ w).alloc (Nat.le_refl _) _) hk hfree (Nat.le_refl _) ⟨hl, by simp, fun j hj => ?_, fun _ j hj => ?_, fun _ j _ => ?_, fun s p hs => by simp only [] at hs; rw [hs] at hi; cases hi⟩
 ·obtain ⟨u, h1, h2⟩ := hc j hj
  exact ⟨u, by rw [cellnew]; exact h1, h2⟩
 ·have hj' : j < cells.size := hj
  exact ⟨cells[j], by rw [cellnew]; simp [hj']⟩
 ·simp [World.frozen?_alloc_new]
theorem row_vals {L : List (Option Loc)} {lc : Loc} {row : Row} {w : World} (ok : RowOK L lc row w) {vs : List Value} (hv : vals row.con = some vs) : ∀ j, j < vs.length → w.cell? ⟨lc.blk, lc.base + j, none⟩ = vs[j]? := by
 intro j hj
 obtain ⟨h1, _, h2⟩ := vals_ok hv
 obtain ⟨u, h3, h4⟩ := ok.cell j (by omega)
 rw [h3, (h2 L j u (by omega)).1 h4]
theorem grown_row {w : World} {L : List (Option Loc)} {e : TypeId} {z : Value} (hz : z.cells.size = 1) {need old : Nat} {all : List Value} (hall : all.length = need) {con' : SV} (hv : vals con' = some all) (hw : RowsOK w0 L rows w) (hk : k < rows.length) (hlk : lo L k = none) :
  ∃ L', Ext k L L' ∧ rep L' (.sl k 0 need) (.slice (some ⟨w.heap.size, 0, none⟩) need (grownCap w need old e)) ∧
   RowsOK w0 L' (rows.set k (some ⟨con', true⟩)) (w.drew.alloc (.cells (all.toArray ++ Builtin.zeroCells z.cells (grownCap w need old e - need)) e)) := by
 obtain ⟨c1, _, c3⟩ := vals_ok hv
 have hge := grownCap_ge w need old e
 have hsz : (all.toArray ++ Builtin.zeroCells z.cells (grownCap w need old e - need)).size = grownCap w need old e := by
  simp [Builtin.zeroCells, hz, hall]; omega
 have hw' : RowsOK w0 L rows w.drew := hw.drew
 have := hw'.alloc' hk hlk (all.toArray ++ Builtin.zeroCells z.cells (grownCap w need old e - need)) e (con := con') (by rw [hsz, c1, hall]; exact hge) (fun j hj => by
  have hj' : j < all.length := by omega
  exact ⟨all[j], by rw [Array.getElem?_append_left (by simpa using hj')]; simp [hj'], (c3 L j _ hj).2 (by simp [hj'])⟩) (vals_isit hv)
 refine ⟨_, Ext.set hlk _, ?_, this⟩
 simp only [rep]
 refine ⟨_, grownCap w need old e, lo_set_self (by rw [hw.size]; exact hk), hge, by simp only [hsz, Nat.zero_add]; exact Nat.le_refl _, rfl⟩
theorem catS_cell {con con2 con' : SV} {n j : Nat} (hc : catS con n con2 = some con') (hjn : j < n) (hj : j < con.len) : con'.cell j = con.cell j := by
 unfold catS at hc
 split at hc
 ·split at hc
  ·simp only [Option.some.injEq] at hc; subst hc
   simp only [SV.len] at hj
   have hmin := Nat.lt_min.2 ⟨hjn, hj⟩
   simp [SV.cell, List.getD_eq_getElem?_getD, List.getElem?_append, hj, hmin]
  ·cases hc
 ·simp only [Option.some.injEq] at hc; subst hc
  simp only [SV.len] at hj
  have hmin := Nat.lt_min.2 ⟨hjn, hj⟩
  simp [SV.cell, List.getD_eq_getElem?_getD, List.getElem?_append, hj, hmin]
 ·simp only [Option.some.injEq] at hc; subst hc
  simp only [SV.len] at hj
  have hmin := Nat.lt_min.2 ⟨hjn, hj⟩
  simp [SV.cell, List.getD_eq_getElem?_getD, List.getElem?_append, hj, hmin]
 ·split at hc
  ·cases hc
   simp only [SV.len] at hj
   have hmin := Nat.lt_min.2 ⟨hjn, hj⟩
   simp [SV.cell, List.getD_eq_getElem?_getD, List.getElem?_append, hj, hmin]
  ·cases hc
 ·cases hc
theorem evAppend_ok {x y : Operand} {t ty : TypeId} {tys : List TypeId} {K : SV → Rows → Option D} {r : D} (h : evAppend P ρ rows k x y t ty K = some r) :
  ∃ s rows', K s rows' = some r ∧ rows'.length = rows.length ∧ SGo P ρ rows k (.call { callee := .builtin .append, args := ⟨[x, y]⟩, argTypes := ⟨t :: ty :: tys⟩ }) s rows' := by
 have tyl : ∀ (a b : Value) (ty' : TypeId), Builtin.append_ ⟨t :: ty :: tys⟩ ty' #[a, b] = Builtin.append_ #[t, ty] ty' #[a, b] := fun _ _ _ => rfl
 have run : ∀ (o : Oper) (a : Act) (w : World), o.op = .call { callee := .builtin .append, args := ⟨[x, y]⟩, argTypes := ⟨t :: ty :: tys⟩ } → ∀ v w', (∀ ty', (Builtin.append_ #[t, ty] ty' #[a.eval x, a.eval y]).run P w = .ok v w') →
   (execOp a.eval o).run P w = .ok (.value v) w' := by
  intro o a w ho v w' hr
  simp only [execOp, ho, resolve]
  have e : (⟨[x, y]⟩ : Array Operand).map a.eval = #[a.eval x, a.eval y] := by simp
  simp only [e, Sem.run_bind, Sem.run_pure, Result.andThen_ok, invoke, builtin, tyl, hr]
 unfold evAppend at h
 split at h
 ·rename_i e e' ht hty
  split at h
  ·rename_i d size bytes z hd hsize hbytes hz
   split at h
   ·rename_i hzz
    simp only [Bool.and_eq_true, beq_iff_eq, decide_eq_true_eq] at hzz
    obtain ⟨⟨hz0, hs1⟩, hb1⟩ := hzz
    have hz1 := isZero_cells hz0
    subst hs1
    unfold sizeT at hsize
    unfold bytesT at hbytes
    unfold zeroT at hz
    cases hi : P.info? e with
    | none => rw [hi] at hz; cases hz
    | some ie =>
     rw [hi] at hz hsize hbytes
     simp only [Option.bind_some, Option.map_some, Option.some.injEq] at hz hsize hbytes
     subst hbytes
     split at h
     ·rename_i r2 off2 m hy
      split at h
      ·rename_i row2 hrow2
       split at h
       ·rename_i con2 hcon2
        split at h
        ·rename_i hle2
         obtain ⟨vs2, hv2, hc2⟩ := partS_ok hcon2
         obtain ⟨len2, one2, _⟩ := vals_ok hv2
         obtain ⟨len2', one2', rep2'⟩ := vals_ok hc2
         have newsl : ((vs2.drop off2).take m).length = m := by simp; omega
         -- the source
         have src : ∀ (w0 : World) (L : List (Option Loc)) (a : Act) (w : World), (∀ q ∈ (Op.call { callee := .builtin .append, args := ⟨[x, y]⟩, argTypes := ⟨t :: ty :: tys⟩ }).operands, rep L (ρ q) (a.eval q)) → RowsOK w0 L rows w →
           Src P 1 ty (a.eval y) m ((vs2.drop off2).take m) w := by
          intro w0 L a w hρ hw
          have hr := hρ y (by simp [Op.operands, Call.operands])
          rw [hy] at hr
          simp only [rep] at hr
          obtain ⟨lc, cap, hlc, h1, h2, hv⟩ := hr
          rw [hv]
          have ok := hw.row r2 row2 lc hrow2 hlc
          refine Src.ofSlice w hty _ m cap _ (by rw [newsl]; simp) (fun j u hj => ?_) one2'
          have hjm : j < m := by
           rcases Nat.lt_or_ge j m with h' | h'
           ·exact h'
           ·rw [List.getElem?_eq_none (by omega)] at hj; cases hj
          have := row_vals ok hv2 (off2 + j) (by omega)
          rw [lit_add, Nat.add_assoc, this, ← hj]
          simp [hjm, List.getElem?_drop]
         split at h
         ·rename_i hx
          split at h
          ·rename_i hm0
           refine ⟨_, _, h, rfl, fun w0 o ho L a w hρ hw hk hlk _ => ?_⟩
           have hr := hρ x (by simp [Op.operands, Call.operands])
           rw [hx] at hr
           simp only [rep] at hr
           have hs := src w0 L a w hρ hw
           refine Goes.value (run o a w ho (.slice none 0 0) w fun ty' => ?_) ⟨L, Ext.refl k L, by rw [hx]; simp only [rep], hw⟩
           rw [hr]
           subst hm0
           simp [Builtin.append_, run_underlying ht, run_underlying hty, sizeOf, typeInfo, hi, hs.len, hs.cells, hsize]
          ·rename_i hm0
           split at h
           ·rename_i hb
            refine ⟨_, _, h, by simp, fun w0 o ho L a w hρ hw hk hlk _ => ?_⟩
            have hr := hρ x (by simp [Op.operands, Call.operands])
            rw [hx] at hr
            simp only [rep] at hr
            have hs := src w0 L a w hρ hw
            have hbm : m * 1 ≤ m * ie.bytes := Nat.mul_le_mul_left _ hb1
            have hrun := fun ty' => run_append_grow_src (P := P) w t ty ty' e ie z ht hi hz none 0 0 [] (by rw [hsize]; exact run_firstCells_none w.drew 1 0 0 0) (a.eval y) m _ (by rw [hsize]; exact hs) (by omega) (by omega)
             (growslice_fits (by omega) (by simpa using hb))
            simp only [Nat.zero_add, List.nil_append] at hrun
            obtain ⟨L', g1, g2, g3⟩ := grown_row (w0 := w0) (rows := rows) (k := k) (L := L) (w := w) (e := e) (z := z) (old := 0) hz1 newsl hc2 hw hk hlk
            exact Goes.value (run o a w ho _ _ fun ty' => by rw [hr]; exact hrun ty') ⟨L', g1, g2, g3⟩
           ·cases h
         ·rename_i r1 n hx
          split at h
          ·rename_i row hrow
           split at h
           ·rename_i hown
            simp only [Bool.and_eq_true, Bool.not_eq_true', beq_eq_false_iff_ne] at hown
            obtain ⟨hown, hne⟩ := hown
            split at h
            ·rename_i con' hcat
             split at h
             ·rename_i hn
              split at h
              ·rename_i hb
               obtain ⟨vs, us, hv1, hv2', hv3⟩ := catS_ok hcat
               rw [hc2] at hv2'
               simp only [Option.some.injEq] at hv2'
               subst hv2'
               obtain ⟨len1, one1, rep1⟩ := vals_ok hv1
               obtain ⟨len3, _, rep3⟩ := vals_ok hv3
               have oldl : (vs.take n).length = n := by simp; omega
               have alll : (vs.take n ++ (vs2.drop off2).take m).length = n + m := by rw [List.length_append, oldl, newsl]
               refine ⟨_, _, h, by simp, fun w0 o ho L a w hρ hw hk hlk _ => ?_⟩
               have hr := hρ x (by simp [Op.operands, Call.operands])
               rw [hx] at hr
               simp only [rep] at hr
               obtain ⟨lc, cap, hlc, g1, g2, hv⟩ := hr
               have hs := src w0 L a w hρ hw
               have ok := hw.row r1 row lc hrow hlc
               have hbm : (n + m) * 1 ≤ (n + m) * ie.bytes := Nat.mul_le_mul_left _ hb1
               by_cases hroom : n + m ≤ cap
               ·have hrun := fun ty' => run_append_room_src (P := P) w t ty ty' e ie ht hi lc.blk (lc.base + 0) n cap (a.eval y) m _ (by rw [hsize]; exact hs) hroom
                 (fun j hj => by
                  rw [newsl] at hj
                  obtain ⟨u, hu⟩ := ok.all hown (n + j) (by omega)
                  rw [hsize, Nat.mul_one, Nat.add_zero, Nat.add_assoc, hu]; rfl)
                 (fun j hj => by
                  rw [newsl] at hj
                  rw [hsize, Nat.mul_one, Nat.add_zero, Nat.add_assoc]; exact ok.free hown (n + j) (by omega))
                rw [hsize, Nat.mul_one, Nat.add_zero] at hrun
                have rowok : RowOK L lc ⟨con', true⟩ (w.setCells lc.blk (lc.base + n) ((vs2.drop off2).take m)) := ok.wrote hown (by rw [newsl]; omega) (catS_isit hcat) (by rw [len3, alll]; omega) fun j hj => by
                 rw [len3, alll] at hj
                 rcases Nat.lt_or_ge j n with hjn | hjn
                 ·right
                  refine ⟨.inl hjn, by omega, ?_⟩
                  exact catS_cell hcat hjn (by omega)
                 ·left
                  have hjm : j - n < ((vs2.drop off2).take m).length := by rw [newsl]; omega
                  refine ⟨hjn, by rw [newsl]; omega, ((vs2.drop off2).take m)[j - n], List.getElem?_eq_getElem hjm, (rep3 L j _ (by rw [len3, alll]; omega)).2 ?_⟩
                  rw [List.getElem?_append_right (by rw [oldl]; exact hjn), oldl]
                  exact List.getElem?_eq_getElem hjm
                have hw' := hw.rewrite hrow hlc hown hk (.inl hlk) (setCells_below (w0 := w0) lc.blk (hw.new r1 row lc hrow hlc hown) _ (lc.base + n) w hw.below) (setCells_size _ _ _ _) (fun b hb => setCells_other _ _ _ _ b hb) rowok
                refine Goes.value (run o a w ho _ _ fun ty' => by rw [hv]; exact hrun ty') ⟨_, Ext.set hlk lc, ?_, hw'⟩
                simp only [rep]
                exact ⟨lc, cap, lo_set_self (by rw [hw.size]; exact hk), hroom, g2, by simp⟩
               ·have hrun := fun ty' => run_append_grow_src (P := P) w t ty ty' e ie z ht hi hz (some ⟨lc.blk, lc.base + 0, none⟩) n cap (vs.take n)
                 (by
                  rw [hsize]
                  refine run_firstCells_some w.drew 1 n _ n cap _ (by rw [oldl, Nat.mul_one]) fun j u hj => ?_
                  have hjn : j < n := by
                   rcases Nat.lt_or_ge j n with h' | h'
                   ·exact h'
                   ·rw [List.getElem?_eq_none (by omega)] at hj; cases hj
                  rw [lit_add, World.cell?_drew, Nat.add_zero, row_vals ok hv1 j (by omega), ← hj]
                  simp [hjn])
                 (a.eval y) m _ (by rw [hsize]; exact hs) (by omega) (by omega) (growslice_fits (by omega) hb)
                have hwk := hw.kill r1
                obtain ⟨L', q1, q2, q3⟩ := grown_row (w0 := w0) (rows := rows.set r1 none) (k := k) (L := L) (w := w) (e := e) (z := z) (old := cap) hz1 alll hv3 hwk (by simpa using hk) hlk
                exact Goes.value (run o a w ho _ _ fun ty' => by rw [hv]; exact hrun ty') ⟨L', q1, q2, q3⟩
              ·cases h
             ·cases h
            ·cases h
           ·cases h
          ·cases h
         ·cases h
        ·cases h
       ·cases h
      ·cases h
     ·rename_i p q hy
      split at h
      ·rename_i hx
       refine ⟨_, _, h, rfl, fun w0 o ho L a w hρ hw hk hlk _ => ?_⟩
       have hr := hρ x (by simp [Op.operands, Call.operands])
       have hr2 := hρ y (by simp [Op.operands, Call.operands])
       rw [hx] at hr
       rw [hy] at hr2
       simp only [rep] at hr hr2
       refine Goes.value (run o a w ho (.slice none 0 0) w fun ty' => ?_) ⟨L, Ext.refl k L, by rw [hx]; simp only [rep], hw⟩
       rw [hr, hr2]
       cases p with
       | none => simp [Builtin.append_, run_underlying ht, run_underlying hty, sizeOf, typeInfo, hi, Builtin.lenOf, Builtin.firstCells]
       | some p => simp [Builtin.append_, run_underlying ht, run_underlying hty, sizeOf, typeInfo, hi, Builtin.lenOf, Builtin.firstCells, loadCells, loadCellsFrom]
      ·cases h
     ·cases h
   ·cases h
  ·cases h
 ·cases h
end
end Go.Ev
namespace Go.Ev
open Go.RowKit
def oneV : SV → Option Value
 | .c (.string t) => some (.string t)
 | .u8 x => some (.int .u8 (x.toNat : Int))
 | .u16 x => some (.int .u16 (x.toNat : Int))
 | .u32 x => some (.int .u32 (x.toNat : Int))
 | .u64 x => some (.int .u64 (x.toNat : Int))
 | .i k n => some (.int k n)
 | .bool b => some (.bool b)
 | _ => none
theorem oneV_ok {s : SV} {v : Value} (h : oneV s = some v) : v.oneCell' = true ∧ ∀ (L : List (Option Loc)) (u : Value), rep L s u ↔ u = v := by
 unfold oneV at h
 split at h <;> first | (cases h; exact ⟨rfl, fun L u => by simp only [rep]⟩) | cases h
def allOne : List SV → Option (List Value)
 | [] => some []
 | s :: l => match oneV s, allOne l with | some v, some vs => some (v :: vs) | _, _ => none
theorem allOne_len : ∀ {l : List SV} {vs : List Value}, allOne l = some vs → vs.length = l.length
 | [], vs, h => by simp only [allOne, Option.some.injEq] at h; subst h; rfl
 | s :: l, vs, h => by
  simp only [allOne] at h
  split at h
  ·rename_i v vt h1 h2
   cases h
   simp only [List.length_cons, allOne_len h2]
  ·cases h
theorem allOne_one : ∀ {l : List SV} {vs : List Value}, allOne l = some vs → ∀ v ∈ vs, v.oneCell' = true
 | [], vs, h => by simp only [allOne, Option.some.injEq] at h; subst h; intro v hv; cases hv
 | s :: l, vs, h => by
  simp only [allOne] at h
  split at h
  ·rename_i v vt h1 h2
   cases h
   intro u hu
   rcases List.mem_cons.1 hu with rfl | hu
   ·exact (oneV_ok h1).1
   ·exact allOne_one h2 u hu
  ·cases h
theorem allOne_get : ∀ {l : List SV} {vs : List Value}, allOne l = some vs → ∀ (L : List (Option Loc)) (j : Nat) (u : Value), j < l.length → (rep L (l.getD j .any) u ↔ vs[j]? = some u)
 | [], _, _, _, j, _, hj => by simp at hj
 | s :: l, vs, h, L, j, u, hj => by
  simp only [allOne] at h
  split at h
  ·rename_i v vt h1 h2
   cases h
   cases j with
   | zero =>
    simp only [List.getD_cons_zero, List.getElem?_cons_zero, Option.some.injEq]
    rw [(oneV_ok h1).2 L u]
    exact ⟨fun h => h.symm, fun h => h.symm⟩
   | succ j =>
    simp only [List.getD_cons_succ, List.getElem?_cons_succ]
    exact allOne_get h2 L j u (by simpa using hj)
  ·cases h
theorem allOne_app : ∀ {l m : List SV} {vs us : List Value}, allOne l = some vs → allOne m = some us → allOne (l ++ m) = some (vs ++ us)
 | [], m, vs, us, h, h2 => by simp only [allOne, Option.some.injEq] at h; subst h; exact h2
 | s :: l, m, vs, us, h, h2 => by
  simp only [allOne] at h
  split at h
  ·rename_i v vt h1 h3
   cases h
   simp only [List.cons_append, allOne, h1, allOne_app h3 h2]
  ·cases h
def evAppendM (P : Program) (ρ : Operand → SV) (rows : Rows) (k : Nat) (x y : Operand) (t ty : TypeId) (K : SV → Rows → Option D) : Option D :=
 match P.underlying t, P.underlying ty with
 | some (.slice e), some (.slice _) => match sizeT P e, bytesT P e, zeroT P e with
  | some size, some bytes, some z => if decide (1 < size) && (z.cells.size == size) && decide (0 < bytes) then
    match ρ y with
    | .slm z2 r2 off2 m => match rows[r2]? with
     | some (some row2) => match row2.con with
      | .agg l2 => if z2 = size ∧ off2 + m * size ≤ l2.length then match allOne ((l2.drop off2).take (m * size)) with
       | some _ => match ρ x with
        | .c (.slice none 0 0) => if 0 < m ∧ m * bytes ≤ 140737488355328 then K (.slm size k 0 m) (rows.set k (some ⟨.agg ((l2.drop off2).take (m * size)), true⟩)) else none
        | .slm z1 r 0 n => match rows[r]? with
         | some (some row) => match row.con with
          | .agg l1 => if row.own && !(r == r2) then if z1 = size ∧ n * size ≤ l1.length ∧ (n + m) * bytes ≤ 140737488355328 then match allOne (l1.take (n * size)) with
            | some _ => K (.slm size k 0 (n + m)) ((rows.set r none).set k (some ⟨.agg (l1.take (n * size) ++ (l2.drop off2).take (m * size)), true⟩))
            | none => none
           else none else none
          | _ => none
         | _ => none
        | _ => none
       | none => none
       else none
      | _ => none
     | _ => none
    | _ => none
   else none
  | _, _, _ => none
 | _, _ => none
section
variable {P : Program} {w0 : World} {ρ : Operand → SV} {rows : Rows} {k : Nat}
theorem zeroCells_size (z : Array Value) (n : Nat) : (Builtin.zeroCells z n).size = n * z.size := by simp [Builtin.zeroCells]
theorem grown_rowM {w : World} {L : List (Option Loc)} {e : TypeId} {z : Value} {size : Nat} (hz : z.cells.size = size) {need old : Nat} {l : List SV} {all : List Value} (hall : all.length = need * size) (hv : allOne l = some all) (hw : RowsOK w0 L rows w) (hk : k < rows.length) (hlk : lo L k = none) :
  ∃ L', Ext k L L' ∧ rep L' (.slm size k 0 need) (.slice (some ⟨w.heap.size, 0, none⟩) need (grownCap w need old e)) ∧
   RowsOK w0 L' (rows.set k (some ⟨.agg l, true⟩)) (w.drew.alloc (.cells (all.toArray ++ Builtin.zeroCells z.cells (grownCap w need old e - need)) e)) := by
 have c1 := allOne_len hv
 have hge := grownCap_ge w need old e
 have hsz : (all.toArray ++ Builtin.zeroCells z.cells (grownCap w need old e - need)).size = grownCap w need old e * size := by
  rw [Array.size_append, zeroCells_size, hz, List.size_toArray, hall, ← Nat.add_mul]
  congr 1
  omega
 have hw' : RowsOK w0 L rows w.drew := hw.drew
 have hle : need * size ≤ grownCap w need old e * size := Nat.mul_le_mul_right _ hge
 have := hw'.alloc' hk hlk (all.toArray ++ Builtin.zeroCells z.cells (grownCap w need old e - need)) e (con := .agg l) (by rw [hsz]; simp only [SV.len]; omega) (fun j hj => by
  have hj' : j < all.length := by simp only [SV.len] at hj; omega
  refine ⟨all[j], by rw [Array.getElem?_append_left (by simpa using hj')]; simp [hj'], ?_⟩
  exact (allOne_get hv L j _ (by simpa [SV.len] using hj)).2 (by simp [hj'])) rfl
 refine ⟨_, Ext.set hlk _, ?_, this⟩
 simp only [rep]
 refine ⟨_, grownCap w need old e, lo_set_self (by rw [hw.size]; exact hk), hge, by simp only [hsz, Nat.zero_add]; exact Nat.le_refl _, rfl⟩
theorem row_valsM {L : List (Option Loc)} {lc : Loc} {row : Row} {w : World} (ok : RowOK L lc row w) {l : List SV} (hl : row.con = .agg l) {off n : Nat} (hn : off + n ≤ l.length) {vs : List Value} (hv : allOne ((l.drop off).take n) = some vs) : ∀ j, j < n → w.cell? ⟨lc.blk, lc.base + (off + j), none⟩ = vs[j]? := by
 intro j hj
 obtain ⟨u, h3, h4⟩ := ok.cell (off + j) (by rw [hl]; simp only [SV.len]; omega)
 rw [h3]
 rw [hl] at h4
 simp only [SV.cell] at h4
 have hlen : ((l.drop off).take n).length = n := by simp; omega
 have e : ((l.drop off).take n).getD j .any = l.getD (off + j) .any := by
  simp [List.getD_eq_getElem?_getD, List.getElem?_take, hj, List.getElem?_drop]
 rw [← e] at h4
 exact ((allOne_get hv L j u (by omega)).1 h4).symm
theorem evAppendM_ok {x y : Operand} {t ty : TypeId} {tys : List TypeId} {K : SV → Rows → Option D} {r : D} (h : evAppendM P ρ rows k x y t ty K = some r) :
  ∃ s rows', K s rows' = some r ∧ rows'.length = rows.length ∧ SGo P ρ rows k (.call { callee := .builtin .append, args := ⟨[x, y]⟩, argTypes := ⟨t :: ty :: tys⟩ }) s rows' := by
 have tyl : ∀ (a b : Value) (ty' : TypeId), Builtin.append_ ⟨t :: ty :: tys⟩ ty' #[a, b] = Builtin.append_ #[t, ty] ty' #[a, b] := fun _ _ _ => rfl
 have run : ∀ (o : Oper) (a : Act) (w : World), o.op = .call { callee := .builtin .append, args := ⟨[x, y]⟩, argTypes := ⟨t :: ty :: tys⟩ } → ∀ v w', (∀ ty', (Builtin.append_ #[t, ty] ty' #[a.eval x, a.eval y]).run P w = .ok v w') →
   (execOp a.eval o).run P w = .ok (.value v) w' := by
  intro o a w ho v w' hr
  simp only [execOp, ho, resolve]
  have e : (⟨[x, y]⟩ : Array Operand).map a.eval = #[a.eval x, a.eval y] := by simp
  simp only [e, Sem.run_bind, Sem.run_pure, Result.andThen_ok, invoke, builtin, tyl, hr]
 unfold evAppendM at h
 split at h
 case h_2 => cases h
 rename_i e e' ht hty
 split at h
 case h_2 => cases h
 rename_i size bytes z hsize hbytes hz
 split at h
 case isFalse => cases h
 rename_i hzz
 simp only [Bool.and_eq_true, beq_iff_eq, decide_eq_true_eq] at hzz
 obtain ⟨⟨hs1, hz1⟩, hb1⟩ := hzz
 unfold sizeT at hsize
 unfold bytesT at hbytes
 unfold zeroT at hz
 cases hi : P.info? e with
 | none => rw [hi] at hz; cases hz
 | some ie =>
 rw [hi] at hz hsize hbytes
 simp only [Option.bind_some, Option.map_some, Option.some.injEq] at hz hsize hbytes
 subst hbytes
 split at h
 case h_2 => cases h
 rename_i z2 r2 off2 m hy
 split at h
 case h_2 => cases h
 rename_i row2 hrow2
 split at h
 case h_2 => cases h
 rename_i l2 hl2
 split at h
 case isFalse => cases h
 rename_i hc
 obtain ⟨rfl, hle2⟩ := hc
 split at h
 case h_2 => cases h
 rename_i vs2 hv2
 have newsl : vs2.length = m * z2 := by
  have := allOne_len hv2
  simp only [List.length_take, List.length_drop] at this
  omega
 have one2 := allOne_one hv2
 have src : ∀ (w0 : World) (L : List (Option Loc)) (a : Act) (w : World), (∀ q ∈ (Op.call { callee := .builtin .append, args := ⟨[x, y]⟩, argTypes := ⟨t :: ty :: tys⟩ }).operands, rep L (ρ q) (a.eval q)) → RowsOK w0 L rows w →
   Src P z2 ty (a.eval y) m vs2 w := by
  intro w0 L a w hρ hw
  have hr := hρ y (by simp [Op.operands, Call.operands])
  rw [hy] at hr
  simp only [rep] at hr
  obtain ⟨lc, cap, hlc, h1, h2, hv⟩ := hr
  rw [hv]
  have ok := hw.row r2 row2 lc hrow2 hlc
  refine Src.ofSlice w hty _ m cap _ newsl (fun j u hj => ?_) one2
  have hjm : j < m * z2 := by
   rcases Nat.lt_or_ge j (m * z2) with h' | h'
   ·exact h'
   ·rw [List.getElem?_eq_none (by omega)] at hj; cases hj
  have := row_valsM ok hl2 hle2 hv2 j hjm
  rw [lit_add, Nat.add_assoc, this, ← hj]
 split at h
 case h_3 => cases h
 ·rename_i hx
  split at h
  case isFalse => cases h
  rename_i hm
  obtain ⟨hm0, hb⟩ := hm
  refine ⟨_, _, h, by simp, fun w0 o ho L a w hρ hw hk hlk _ => ?_⟩
  have hr := hρ x (by simp [Op.operands, Call.operands])
  rw [hx] at hr
  simp only [rep] at hr
  have hs := src w0 L a w hρ hw
  have hbm : m * 1 ≤ m * ie.bytes := Nat.mul_le_mul_left _ hb1
  have hrun := fun ty' => run_append_grow_src (P := P) w t ty ty' e ie z ht hi hz none 0 0 [] (by rw [hsize]; exact run_firstCells_none w.drew z2 0 0 0) (a.eval y) m _ (by rw [hsize]; exact hs) (by omega) (by omega)
   (growslice_fits (by omega) (by simpa using hb))
  simp only [Nat.zero_add, List.nil_append] at hrun
  obtain ⟨L', g1, g2, g3⟩ := grown_rowM (w0 := w0) (rows := rows) (k := k) (L := L) (w := w) (e := e) (z := z) (old := 0) hz1 newsl hv2 hw hk hlk
  exact Goes.value (run o a w ho _ _ fun ty' => by rw [hr]; exact hrun ty') ⟨L', g1, g2, g3⟩
 ·rename_i z1 r1 n hx
  split at h
  case h_2 => cases h
  rename_i row hrow
  split at h
  case h_2 => cases h
  rename_i l1 hl1
  split at h
  case isFalse => cases h
  rename_i hown
  simp only [Bool.and_eq_true, Bool.not_eq_true', beq_eq_false_iff_ne] at hown
  obtain ⟨hown, hne⟩ := hown
  split at h
  case isFalse => cases h
  rename_i hn
  obtain ⟨rfl, hn, hb⟩ := hn
  split at h
  case h_2 => cases h
  rename_i vs1 hv1
  have oldl : vs1.length = n * z1 := by
   have := allOne_len hv1
   simp only [List.length_take] at this
   omega
  have hv3 := allOne_app hv1 hv2
  have alll : (vs1 ++ vs2).length = (n + m) * z1 := by rw [List.length_append, oldl, newsl, Nat.add_mul]
  have len3 := allOne_len hv3
  refine ⟨_, _, h, by simp, fun w0 o ho L a w hρ hw hk hlk _ => ?_⟩
  have hr := hρ x (by simp [Op.operands, Call.operands])
  rw [hx] at hr
  simp only [rep] at hr
  obtain ⟨lc, cap, hlc, g1, g2, hv⟩ := hr
  have hs := src w0 L a w hρ hw
  have ok := hw.row r1 row lc hrow hlc
  have hbm : (n + m) * 1 ≤ (n + m) * ie.bytes := Nat.mul_le_mul_left _ hb1
  have row1 : ∀ j, j < n * z1 → w.cell? ⟨lc.blk, lc.base + j, none⟩ = vs1[j]? := fun j hj => by
   have := row_valsM ok hl1 (off := 0) (n := n * z1) (by omega) (by simpa using hv1) j hj
   simpa using this
  by_cases hroom : n + m ≤ cap
  ·have hfit : n * z1 + m * z1 ≤ lc.size := by
    have := Nat.mul_le_mul_right z1 hroom
    rw [Nat.add_mul] at this
    omega
   have hrun := fun ty' => run_append_room_src (P := P) w t ty ty' e ie ht hi lc.blk (lc.base + 0) n cap (a.eval y) m _ (by rw [hsize]; exact hs) hroom
    (fun j hj => by
     rw [newsl] at hj
     obtain ⟨u, hu⟩ := ok.all hown (n * z1 + j) (by omega)
     rw [hsize, Nat.add_zero, Nat.add_assoc, hu]; rfl)
    (fun j hj => by
     rw [newsl] at hj
     rw [hsize, Nat.add_zero, Nat.add_assoc]; exact ok.free hown (n * z1 + j) (by omega))
   rw [hsize, Nat.add_zero] at hrun
   have rowok : RowOK L lc ⟨.agg (l1.take (n * z1) ++ (l2.drop off2).take (m * z1)), true⟩ (w.setCells lc.blk (lc.base + n * z1) vs2) := ok.wrote hown (by rw [newsl]; omega) rfl (by simp only [SV.len]; rw [← len3, alll, Nat.add_mul]; omega) fun j hj => by
    simp only [SV.len] at hj
    rw [← len3, alll, Nat.add_mul] at hj
    rcases Nat.lt_or_ge j (n * z1) with hjn | hjn
    ·right
     refine ⟨.inl hjn, by rw [hl1]; simp only [SV.len]; omega, ?_⟩
     rw [hl1]
     have h1 : j < (l1.take (n * z1)).length := by simp; omega
     simp [SV.cell, List.getD_eq_getElem?_getD, List.getElem?_append_left h1, List.getElem?_take, hjn]
    ·left
     have hjm : j - n * z1 < vs2.length := by rw [newsl]; omega
     refine ⟨hjn, by rw [newsl]; omega, vs2[j - n * z1], List.getElem?_eq_getElem hjm, ?_⟩
     refine (allOne_get hv3 L j _ (by rw [← len3, alll, Nat.add_mul]; omega)).2 ?_
     rw [List.getElem?_append_right (by rw [oldl]; exact hjn), oldl]
     exact List.getElem?_eq_getElem hjm
   have hw' := hw.rewrite hrow hlc hown hk (.inl hlk) (setCells_below (w0 := w0) lc.blk (hw.new r1 row lc hrow hlc hown) _ (lc.base + n * z1) w hw.below) (setCells_size _ _ _ _) (fun b hb => setCells_other _ _ _ _ b hb) rowok
   refine Goes.value (run o a w ho _ _ fun ty' => by rw [hv]; exact hrun ty') ⟨_, Ext.set hlk lc, ?_, hw'⟩
   simp only [rep]
   exact ⟨lc, cap, lo_set_self (by rw [hw.size]; exact hk), hroom, g2, by simp⟩
  ·have hrun := fun ty' => run_append_grow_src (P := P) w t ty ty' e ie z ht hi hz (some ⟨lc.blk, lc.base + 0, none⟩) n cap vs1
    (by
     rw [hsize]
     refine run_firstCells_some w.drew z1 n _ n cap _ oldl fun j u hj => ?_
     have hjn : j < n * z1 := by
      rcases Nat.lt_or_ge j (n * z1) with h' | h'
      ·exact h'
      ·rw [List.getElem?_eq_none (by omega)] at hj; cases hj
     rw [lit_add, World.cell?_drew, Nat.add_zero, row1 j hjn, ← hj])
    (a.eval y) m _ (by rw [hsize]; exact hs) (by omega) (by omega) (growslice_fits (by omega) hb)
   have hwk := hw.kill r1
   obtain ⟨L', q1, q2, q3⟩ := grown_rowM (w0 := w0) (rows := rows.set r1 none) (k := k) (L := L) (w := w) (e := e) (z := z) (old := cap) hz1 alll hv3 hwk (by simpa using hk) hlk
   exact Goes.value (run o a w ho _ _ fun ty' => by rw [hv]; exact hrun ty') ⟨L', q1, q2, q3⟩
end
end Go.Ev
namespace Go.Ev
open Go.RowKit
def reflA (n m : Nat) : List D → Option (List SV × List SV)
 | [] => some ([], [])
 | d :: l => match reflect1 n m d with
  | some (s, none) => match reflA n m l with | some (t, r) => some (s :: t, r) | none => none
  | some (s, some c) => match reflA (n + 1) m l with | some (t, r) => some (s :: t, c :: r) | none => none
  | none => none
def reflB (n m : Nat) (d : D) : Option (SV × List SV) :=
 match d with
 | .agg l => match reflA n m l with | some (t, r) => some (.agg t, r) | none => none
 | .sl l => match reflA n m l with | some (t, r) => some (.sl (n + r.length) 0 l.length, r ++ [.agg t]) | none => none
 | d => match reflect1 n m d with | some (s, none) => some (s, []) | some (s, some c) => some (s, [c]) | none => none
def reflC (n m : Nat) : List D → Option (List SV × List SV)
 | [] => some ([], [])
 | d :: l => match reflB n m d with
  | some (s, r) => match reflC (n + r.length) m l with | some (t, r2) => some (s :: t, r ++ r2) | none => none
  | none => none
def reflW (n m : Nat) (d : D) : Option (SV × List SV) :=
 match d with
 | .tup l => match reflC n m l with | some (t, r) => some (.tup t, r) | none => none
 | d => reflB n m d
def Put (L : List (Option Loc)) (n : Nat) (os : List Loc) : Prop := ∀ (i : Nat) (o : Loc), os[i]? = some o → lo L (n + i) = some o
def RowsAre (L : List (Option Loc)) (w : World) (os : List Loc) (r : List SV) : Prop := ∀ (j : Nat) (o : Loc) (c : SV), os[j]? = some o → r[j]? = some c → RowOK L o ⟨c, false⟩ w
def Lays (base : Nat) (w : World) (n : Nat) (r : List SV) (R : List (Option Loc) → Prop) : Prop :=
 ∃ os : List Loc, os.length = r.length ∧ (∀ o ∈ os, base ≤ o.blk) ∧ ∀ L, Put L n os → RowsAre L w os r ∧ R L
theorem RowOK.read_only {L : List (Option Loc)} {o : Loc} {c : SV} {w : World} (h : RowOK L o ⟨c, true⟩ w) : RowOK L o ⟨c, false⟩ w := ⟨h.len, h.blk, h.cell, fun e => (by cases e), fun e => (by cases e), h.obj⟩
theorem Put.head {L : List (Option Loc)} {n : Nat} {o : Loc} {os : List Loc} (h : Put L n (o :: os)) : lo L n = some o ∧ Put L (n + 1) os :=
 ⟨by simpa using h 0 o rfl, fun i p hp => by have := h (i + 1) p (by simpa using hp); rw [show n + 1 + i = n + (i + 1) by omega]; exact this⟩
theorem Put.parts {L : List (Option Loc)} {n : Nat} {os os2 : List Loc} (h : Put L n (os ++ os2)) : Put L n os ∧ Put L (n + os.length) os2 := by
 refine ⟨fun i p hp => ?_, fun i p hp => ?_⟩
 ·have hi : i < os.length := by
   rcases Nat.lt_or_ge i os.length with g | g
   ·exact g
   ·rw [List.getElem?_eq_none g] at hp; cases hp
  exact h i p (by rw [List.getElem?_append_left hi]; exact hp)
 ·rw [Nat.add_assoc]
  exact h (os.length + i) p (by rw [List.getElem?_append_right (by omega), Nat.add_sub_cancel_left]; exact hp)
theorem RowsAre.join {L : List (Option Loc)} {w : World} {os os2 : List Loc} {r r2 : List SV} (hl : os.length = r.length) (h : RowsAre L w os r) (h2 : RowsAre L w os2 r2) : RowsAre L w (os ++ os2) (r ++ r2) := by
 intro j o c ho hc
 rcases Nat.lt_or_ge j os.length with g | g
 ·rw [List.getElem?_append_left g] at ho
  rw [List.getElem?_append_left (by omega)] at hc
  exact h j o c ho hc
 ·rw [List.getElem?_append_right g] at ho
  rw [List.getElem?_append_right (by omega), ← hl] at hc
  exact h2 _ o c ho hc
theorem reflA_ok {m : Nat} {base : Nat} {w : World} : ∀ {l : List D} {n : Nat} {t r : List SV} {vs : List Value}, reflA n m l = some (t, r) → lie (some base) w l vs → Lays base w n r (fun L => reps L t vs)
 | [], n, t, r, vs, h, hl => by
  simp only [reflA, Option.some.injEq, Prod.mk.injEq] at h
  obtain ⟨rfl, rfl⟩ := h
  simp only [lie] at hl; subst hl
  exact ⟨[], rfl, by simp, fun L _ => ⟨fun j o c ho _ => by simp at ho, by simp only [reps]⟩⟩
 | d :: l, n, t, r, vs, h, hl => by
  simp only [lie] at hl
  obtain ⟨v, vt, rfl, hv, hl⟩ := hl
  simp only [reflA] at h
  split at h
  ·rename_i s h1
   split at h
   ·rename_i t' r' h2
    simp only [Option.some.injEq, Prod.mk.injEq] at h
    obtain ⟨rfl, rfl⟩ := h
    have g1 := reflect1_ok h1 hv
    obtain ⟨os, e1, e2, e3⟩ := reflA_ok h2 hl
    exact ⟨os, e1, e2, fun L hL => ⟨(e3 L hL).1, by simp only [reps]; exact ⟨v, vt, rfl, g1 L, (e3 L hL).2⟩⟩⟩
   ·cases h
  ·rename_i s c h1
   split at h
   ·rename_i t' r' h2
    simp only [Option.some.injEq, Prod.mk.injEq] at h
    obtain ⟨rfl, rfl⟩ := h
    obtain ⟨o, o1, o2, o3⟩ := reflect1_ok h1 hv
    obtain ⟨os, e1, e2, e3⟩ := reflA_ok h2 hl
    refine ⟨o :: os, by simp [e1], fun p hp => ?_, fun L hL => ?_⟩
    ·rcases List.mem_cons.1 hp with rfl | hp
     ·exact o1
     ·exact e2 p hp
    ·obtain ⟨p1, p2⟩ := hL.head
     obtain ⟨q1, q2⟩ := e3 L p2
     refine ⟨fun j p c' hp hc => ?_, by simp only [reps]; exact ⟨v, vt, rfl, o3 L p1, q2⟩⟩
     cases j with
     | zero =>
      simp only [List.getElem?_cons_zero, Option.some.injEq] at hp hc
      subst hp; subst hc
      exact (o2 L).read_only
     | succ j => exact q1 j p c' (by simpa using hp) (by simpa using hc)
   ·cases h
  ·cases h
theorem lieAt_vals {own : Option Nat} {w : World} {b : Nat} : ∀ {l : List D} {o : Nat}, lieAt own w b o l → ∃ vs, lie own w l vs ∧ vs.length = l.length ∧ ∀ j, j < l.length → w.cell? ⟨b, o + j, none⟩ = vs[j]?
 | [], o, _ => ⟨[], by simp only [lie], rfl, fun j hj => absurd hj (Nat.not_lt_zero _)⟩
 | d :: l, o, h => by
  simp only [lieAt] at h
  obtain ⟨⟨u, h1, h2⟩, h⟩ := h
  obtain ⟨vs, e1, e2, e3⟩ := lieAt_vals h
  refine ⟨u :: vs, by simp only [lie]; exact ⟨u, vs, rfl, h2, e1⟩, by simp [e2], fun j hj => ?_⟩
  cases j with
  | zero => simpa using h1
  | succ j =>
   rw [show o + (j + 1) = o + 1 + j by omega, e3 j (by simpa using hj)]
   simp
def rowL : Option SV → List SV
 | none => []
 | some c => [c]
theorem reflect1_lays {n m : Nat} {d : D} {s : SV} {row : Option SV} {base : Nat} {w : World} {v : Value} (h : reflect1 n m d = some (s, row)) (hl : lies (some base) w d v) : Lays base w n (rowL row) (fun L => rep L s v) := by
 have g := reflect1_ok h hl
 cases row with
 | none => exact ⟨[], rfl, by simp, fun L _ => ⟨fun j o c ho _ => by simp at ho, g L⟩⟩
 | some c =>
  obtain ⟨o, o1, o2, o3⟩ := g
  refine ⟨[o], rfl, by simpa using o1, fun L hL => ⟨fun j p c' hp hc => ?_, o3 L hL.head.1⟩⟩
  cases j with
  | zero =>
   simp only [rowL, List.getElem?_cons_zero, Option.some.injEq] at hp hc
   subst hp; subst hc
   exact (o2 L).read_only
  | succ j => simp at hp
theorem reflB_ok {m : Nat} {base : Nat} {w : World} {n : Nat} {d : D} {s : SV} {r : List SV} {v : Value} (h : reflB n m d = some (s, r)) (hl : lies (some base) w d v) : Lays base w n r (fun L => rep L s v) := by
 unfold reflB at h
 split at h
 ·rename_i l
  split at h
  ·rename_i t r' h1
   simp only [Option.some.injEq, Prod.mk.injEq] at h
   obtain ⟨rfl, rfl⟩ := h
   simp only [lies] at hl
   obtain ⟨cs, rfl, hl⟩ := hl
   obtain ⟨os, e1, e2, e3⟩ := reflA_ok h1 hl
   exact ⟨os, e1, e2, fun L hL => ⟨(e3 L hL).1, by simp only [rep]; exact ⟨cs, rfl, (e3 L hL).2⟩⟩⟩
  ·cases h
 ·rename_i l
  split at h
  ·rename_i t r' h1
   simp only [Option.some.injEq, Prod.mk.injEq] at h
   obtain ⟨rfl, rfl⟩ := h
   simp only [lies] at hl
   obtain ⟨b, o, cap, rfl, hb, hcap, hat, hown⟩ := hl
   obtain ⟨vs, f1, f2, f3⟩ := lieAt_vals hat
   obtain ⟨os, e1, e2, e3⟩ := reflA_ok h1 f1
   refine ⟨os ++ [⟨b, o, cap⟩], by simp [e1], fun p hp => ?_, fun L hL => ?_⟩
   ·rcases List.mem_append.1 hp with hp | hp
    ·exact e2 p hp
    ·simp only [List.mem_singleton] at hp
     subst hp
     exact (hown base rfl).1
   ·obtain ⟨p1, p2⟩ := hL.parts
    obtain ⟨q1, q2⟩ := e3 L p1
    have htl : t.length = l.length := by rw [← f2]; exact (reps_length q2).symm
    have hrow : RowOK L ⟨b, o, cap⟩ ⟨.agg t, false⟩ w := by
     refine ⟨by simp only [SV.len, htl]; exact hcap, hb, fun j hj => ?_, fun e => (by cases e), fun e => (by cases e), fun s p e => (by cases e)⟩
     have hj' : j < t.length := by simpa [SV.len] using hj
     obtain ⟨u, g1, g2⟩ := reps_get q2 j hj'
     exact ⟨u, by rw [f3 j (by omega)]; exact g1, by simpa [SV.cell] using g2⟩
    refine ⟨q1.join e1 fun j p c' hp hc => ?_, ?_⟩
    ·cases j with
     | zero =>
      simp only [List.getElem?_cons_zero, Option.some.injEq] at hp hc
      subst hp; subst hc
      exact hrow
     | succ j => simp at hp
    ·simp only [rep]
     refine ⟨⟨b, o, cap⟩, cap, ?_, hcap, by simp, by simp⟩
     rw [← e1]
     simpa using p2 0 ⟨b, o, cap⟩ rfl
  ·cases h
 ·split at h
  ·rename_i s' h1
   simp only [Option.some.injEq, Prod.mk.injEq] at h
   obtain ⟨rfl, rfl⟩ := h
   exact reflect1_lays h1 hl
  ·rename_i s' c h1
   simp only [Option.some.injEq, Prod.mk.injEq] at h
   obtain ⟨rfl, rfl⟩ := h
   exact reflect1_lays h1 hl
  ·cases h
theorem reflC_ok {m : Nat} {base : Nat} {w : World} : ∀ {l : List D} {n : Nat} {t r : List SV} {vs : List Value}, reflC n m l = some (t, r) → lie (some base) w l vs → Lays base w n r (fun L => reps L t vs)
 | [], n, t, r, vs, h, hl => by
  simp only [reflC, Option.some.injEq, Prod.mk.injEq] at h
  obtain ⟨rfl, rfl⟩ := h
  simp only [lie] at hl; subst hl
  exact ⟨[], rfl, by simp, fun L _ => ⟨fun j o c ho _ => by simp at ho, by simp only [reps]⟩⟩
 | d :: l, n, t, r, vs, h, hl => by
  simp only [lie] at hl
  obtain ⟨v, vt, rfl, hv, hl⟩ := hl
  simp only [reflC] at h
  split at h
  ·rename_i s r1 h1
   split at h
   ·rename_i t' r2 h2
    simp only [Option.some.injEq, Prod.mk.injEq] at h
    obtain ⟨rfl, rfl⟩ := h
    obtain ⟨os, e1, e2, e3⟩ := reflB_ok h1 hv
    obtain ⟨os2, f1, f2, f3⟩ := reflC_ok h2 hl
    refine ⟨os ++ os2, by simp [e1, f1], fun p hp => ?_, fun L hL => ?_⟩
    ·rcases List.mem_append.1 hp with hp | hp
     ·exact e2 p hp
     ·exact f2 p hp
    ·obtain ⟨p1, p2⟩ := hL.parts
     rw [e1] at p2
     obtain ⟨q1, q2⟩ := e3 L p1
     obtain ⟨q3, q4⟩ := f3 L p2
     exact ⟨q1.join e1 q3, by simp only [reps]; exact ⟨v, vt, rfl, q2, q4⟩⟩
   ·cases h
  ·cases h
theorem reflW_ok {m : Nat} {base : Nat} {w : World} {n : Nat} {d : D} {s : SV} {r : List SV} {v : Value} (h : reflW n m d = some (s, r)) (hl : lies (some base) w d v) : Lays base w n r (fun L => rep L s v) := by
 unfold reflW at h
 split at h
 ·rename_i l
  split at h
  ·rename_i t r' h1
   simp only [Option.some.injEq, Prod.mk.injEq] at h
   obtain ⟨rfl, rfl⟩ := h
   simp only [lies] at hl
   obtain ⟨cs, rfl, hl⟩ := hl
   obtain ⟨os, e1, e2, e3⟩ := reflC_ok h1 hl
   exact ⟨os, e1, e2, fun L hL => ⟨(e3 L hL).1, by simp only [rep]; exact ⟨cs, rfl, (e3 L hL).2⟩⟩⟩
  ·cases h
 ·exact reflB_ok h hl
structure ExtW (k : Nat) (L L' : List (Option Loc)) : Prop where
 mono : ∀ (r : Nat) (p : Loc), lo L r = some p → lo L' r = some p
 other : ∀ r, r ≠ k → r < L.length → lo L' r = lo L r
theorem Ext.wide {k : Nat} {L L' : List (Option Loc)} (h : Ext k L L') : ExtW k L L' := ⟨h.mono, fun r hr _ => h.other r hr⟩
def rowsOf (r : List SV) : Rows := r.map fun c => some ⟨c, false⟩
theorem lo_left {L M : List (Option Loc)} {r : Nat} (h : r < L.length) : lo (L ++ M) r = lo L r := by
 unfold lo; rw [List.getElem?_append_left h]
theorem lo_some_lt {L : List (Option Loc)} {r : Nat} {p : Loc} (h : lo L r = some p) : r < L.length := by
 rcases Nat.lt_or_ge r L.length with g | g
 ·exact g
 ·unfold lo at h
  rw [List.getElem?_eq_none g] at h; cases h
theorem lo_right {L : List (Option Loc)} {os : List Loc} (i : Nat) : lo (L ++ os.map some) (L.length + i) = os[i]? := by
 unfold lo
 rw [List.getElem?_append_right (by omega), Nat.add_sub_cancel_left, List.getElem?_map]
 cases os[i]? <;> rfl
theorem put_new (L : List (Option Loc)) (os : List Loc) : Put (L ++ os.map some) L.length os := fun i o ho => by rw [lo_right]; exact ho
theorem RowsOK.behind {w0 w w' : World} {L : List (Option Loc)} {rows : Rows} (h : RowsOK w0 L rows w) (hb : Below w.heap.size w w') {os : List Loc} {r : List SV} (hl : os.length = r.length) (hn : ∀ o ∈ os, w.heap.size ≤ o.blk)
  (hr : RowsAre (L ++ os.map some) w' os r) : RowsOK w0 (L ++ os.map some) (rows ++ rowsOf r) w' := by
 have hg := h.grow hb
 have cases' : ∀ (i : Nat) (row : Row), (rows ++ rowsOf r)[i]? = some (some row) → (i < rows.length ∧ rows[i]? = some (some row)) ∨ (∃ c, rows.length ≤ i ∧ r[i - rows.length]? = some c ∧ row = ⟨c, false⟩) := by
  intro i row hi
  rcases Nat.lt_or_ge i rows.length with g | g
  ·rw [List.getElem?_append_left g] at hi; exact .inl ⟨g, hi⟩
  ·rw [List.getElem?_append_right g] at hi
   unfold rowsOf at hi
   rw [List.getElem?_map] at hi
   cases hc : r[i - rows.length]? with
   | none => rw [hc] at hi; cases hi
   | some c =>
    rw [hc] at hi
    simp only [Option.map_some, Option.some.injEq] at hi
    exact .inr ⟨c, g, rfl, hi.symm⟩
 have newLoc : ∀ (i : Nat) (o : Loc), rows.length ≤ i → lo (L ++ os.map some) i = some o → os[i - rows.length]? = some o := by
  intro i o hi ho
  have := lo_right (L := L) (os := os) (i - rows.length)
  rw [h.size, show rows.length + (i - rows.length) = i by omega] at this
  rw [← this]; exact ho
 refine ⟨hg.below, by simp [h.size, rowsOf, hl], ?_, ?_, ?_, ?_⟩
 ·intro i row hi
  rcases cases' i row hi with ⟨g, h1⟩ | ⟨c, g, h1, _⟩
  ·obtain ⟨o, ho⟩ := h.has i row h1
   exact ⟨o, by rw [lo_left (by rw [h.size]; exact g)]; exact ho⟩
  ·have hlt : i - rows.length < os.length := by
    rw [hl]
    rcases Nat.lt_or_ge (i - rows.length) r.length with g2 | g2
    ·exact g2
    ·rw [List.getElem?_eq_none g2] at h1; cases h1
   refine ⟨os[i - rows.length], ?_⟩
   have := lo_right (L := L) (os := os) (i - rows.length)
   rw [h.size, show rows.length + (i - rows.length) = i by omega] at this
   rw [this]; simp [hlt]
 ·intro i row o hi ho
  rcases cases' i row hi with ⟨g, h1⟩ | ⟨c, g, h1, rfl⟩
  ·rw [lo_left (by rw [h.size]; exact g)] at ho
   exact (hg.row i row o h1 ho).mono fun q p hp => by rw [lo_left (lo_some_lt hp)]; exact hp
  ·exact hr _ o c (newLoc i o g ho) h1
 ·intro i j ri rj oi oj hij hi hj hoi hoj hown
  rcases cases' i ri hi with ⟨g, h1⟩ | ⟨c, g, h1, rfl⟩
  ·rw [lo_left (by rw [h.size]; exact g)] at hoi
   rcases cases' j rj hj with ⟨g2, h2⟩ | ⟨c2, g2, h2, rfl⟩
   ·rw [lo_left (by rw [h.size]; exact g2)] at hoj
    exact h.sep i j ri rj oi oj hij h1 h2 hoi hoj hown
   ·have hb1 := (h.row i ri oi h1 hoi).blk
    have hb2 := hn oj (List.mem_of_getElem? (newLoc j oj g2 hoj))
    omega
  ·cases hown
 ·intro i row o hi ho hown
  rcases cases' i row hi with ⟨g, h1⟩ | ⟨c, g, h1, rfl⟩
  ·rw [lo_left (by rw [h.size]; exact g)] at ho
   exact h.new i row o h1 ho hown
  ·cases hown
def evCall2 (sp : Table) (ρ : Operand → SV) (rows : Rows) (k : Nat) (c : Call) (K : SV → Rows → Option D) : Option D :=
 match c.callee with
 | .value f => match ρ f with
  | .clo fid caps => match sp fid with
   | some s => match mapO (reifyU false rows 6) (mapSV ρ c.args.toList ++ caps) with
    | some ds => if (mapSV ρ c.args.toList ++ caps).all (okR rows 6) = true then s ds fun d => match reflect k 6 d with
     | some (sv, row) => K sv (setRow rows k row)
     | none => match reflW rows.length 6 d with
      | some (sv, r) => K sv (rows ++ rowsOf r)
      | none => none
     else none
    | none => none
   | none => none
  | _ => none
 | _ => none
def VGo (P : Program) (G : List (Nat × SV)) (ρ : Operand → SV) (rows : Rows) (k : Nat) (op : Op) (s : SV) (rows' : Rows) : Prop :=
 ∀ (w0 : World) (o : Oper), o.op = op → ∀ (L : List (Option Loc)) (a : Act) (w : World), (∀ x ∈ op.operands, rep L (ρ x) (a.eval x)) → RowsOK w0 L rows w → k < rows.length → lo L k = none → Glob G w0 → a.defers = [] →
  Goes P o a w (fun v w' => ∃ L', ExtW k L L' ∧ rep L' s v ∧ RowsOK w0 L' rows' w')
theorem evCall2_ok {P : Program} {G : List (Nat × SV)} {ρ : Operand → SV} {rows : Rows} {k : Nat} {sp : Table} (hsp : TableOK P G sp) {c : Call} {K : SV → Rows → Option D} {r : D} (h : evCall2 sp ρ rows k c K = some r) :
  ∃ s rows', K s rows' = some r ∧ rows.length ≤ rows'.length ∧ VGo P G ρ rows k (.call c) s rows' := by
 unfold evCall2 at h
 split at h
 ·rename_i f hf
  split at h
  ·rename_i fid caps hclo
   split at h
   ·rename_i s hs
    split at h
    ·rename_i ds hds0
     split at h
     case isFalse => cases h
     rename_i hall
     have hds := mapO_congr (reifyU_ok 6) hds0 hall
     obtain ⟨d, hd, hgo⟩ := hsp fid s hs ds _ r h
     have go : ∀ (sv : SV) (rows' : Rows), (∀ (w0 : World) (L : List (Option Loc)) (w : World), RowsOK w0 L rows w → k < rows.length → lo L k = none → ∀ (v : Value) (w' : World), Below w.heap.size w w' → lies (some w.heap.size) w' d v → ∃ L', ExtW k L L' ∧ rep L' sv v ∧ RowsOK w0 L' rows' w') → VGo P G ρ rows k (.call c) sv rows' := by
      intro sv rows' fin w0 o ho L a w hρ hw hk1 hk2 hG _
      have hcl := hρ f (by simp [Op.operands, Call.operands, hf])
      rw [hclo] at hcl
      simp only [rep] at hcl
      obtain ⟨cs, hfv, hcs⟩ := hcl
      have hargs : reps L (mapSV ρ c.args.toList ++ caps) (c.args.toList.map a.eval ++ cs) :=
       reps_append (mapSV_rep _ fun x hx => hρ x (by simp only [Op.operands, Call.operands, Array.mem_append]; exact .inr (Array.mem_toList_iff.1 hx))) hcs
      have lieArgs : lie none w ds (c.args.toList.map a.eval ++ cs) := lie_of (f := reify false rows 6) (fun s d v h1 h2 => reify_ok (hw.see sub.refl) 6 s d v h1 h2) hds hargs
      have hrun : (execOp a.eval o).run P w = (callFunc fid ⟨c.args.toList.map a.eval ++ cs⟩).run P w := by
       have e1 : c.args.map a.eval ++ (⟨cs⟩ : Array Value) = ⟨c.args.toList.map a.eval ++ cs⟩ := by
        apply Array.ext'; simp
       simp only [execOp, ho, resolve, hf, hfv, Deferred.ofValue]
       simp only [Sem.run_bind, Sem.run_pure, Result.andThen_ok, invoke, Array.empty_append, e1]
      rcases hgo w _ (hG.grow ⟨hw.below.os, hw.below.tape, hw.below.output, hw.below.size, hw.below.block⟩) lieArgs with ⟨v, w', h1, h2, h3⟩ | ⟨h1, h2⟩
      ·exact Goes.value (by rw [hrun]; exact h1) (fin w0 L w hw hk1 hk2 v w' h2 h3)
      ·refine Goes.call (by rw [hrun]; exact h1) ?_
       exact Calls.mono h2 fun e w' ⟨v, he, hb, hl⟩ => ⟨v, he, fin w0 L w hw hk1 hk2 v w' hb hl⟩
     split at hd
     ·rename_i sv row hrow
      refine ⟨sv, _, hd, by cases row <;> simp [setRow], go _ _ fun w0 L w hw hk1 hk2 v w' hb hl => ?_⟩
      have g := reflect_ok hrow hl
      cases row with
      | none => exact ⟨L, (Ext.refl k L).wide, g L, hw.grow hb⟩
      | some con =>
       obtain ⟨lc, o1, o2, o3⟩ := g
       exact ⟨_, (Ext.set hk2 lc).wide, o3 _ (lo_set_self (by rw [hw.size]; exact hk1)), hw.fill hb hk1 hk2 o1 (o2 L)⟩
     ·split at hd
      ·rename_i sv rr hrow
       refine ⟨sv, _, hd, by simp, go _ _ fun w0 L w hw hk1 hk2 v w' hb hl => ?_⟩
       obtain ⟨os, e1, e2, e3⟩ := reflW_ok hrow hl
       have hp := put_new L os
       rw [hw.size] at hp
       obtain ⟨q1, q2⟩ := e3 _ hp
       exact ⟨_, ⟨fun q p hq => by rw [lo_left (lo_some_lt hq)]; exact hq, fun q _ hq => lo_left hq⟩, q2, hw.behind hb e1 e2 q1⟩
      ·cases hd
    ·cases h
   ·cases h
  ·cases h
 ·cases h
def evNext (ρ : Operand → SV) (rows : Rows) (x : Operand) (K : SV → Rows → Option D) : Option D :=
 match ρ x with
 | .ptr r 0 => match rows[r]? with
  | some (some row) => if row.own then match row.con with
    | .sit s pos => if pos < s.size then K (.tup [.bool true, .i .i64 pos, .i .i32 (Utf8.decode s pos).1]) (rows.set r (some ⟨.sit s (pos + (Utf8.decode s pos).2), true⟩)) else K (.tup [.bool false]) rows
    | _ => none
   else none
  | _ => none
 | _ => none
def isMany (P : Program) (t : TypeId) : Bool := match P.underlying t with
 | some (.slice e) => match sizeT P e with
  | some n => decide (1 < n)
  | none => false
 | _ => false
def evS (P : Program) (ρ : Operand → SV) (rows : Rows) (k : Nat) (op : Op) (K : SV → Rows → Option D) : Option D :=
 match op with
 | .store t x y => evStore P rows t (ρ x) (ρ y) (fun rows' => K .any rows')
 | .next x true => evNext ρ rows x K
 | .call c => match c with
  | { callee := .builtin .append, args := ⟨[x, y]⟩, argTypes := ⟨t :: ty :: _⟩ } => if isMany P t = true then evAppendM P ρ rows k x y t ty K else evAppend P ρ rows k x y t ty K
  | _ => none
 | _ => none
def isS : Op → Bool
 | .store _ _ _ => true
 | .next _ _ => true
 | .call c => match c.callee with
  | .builtin .append => true
  | _ => false
 | _ => false
def evQ (P : Program) (G : List (Nat × SV)) (sp : Table) (ρ : Operand → SV) (rows : Rows) (k : Nat) (op : Op) (K : OpK D) : Option D :=
 match op with
 | .call c => match c.callee with
  | .value _ => evCall sp ρ rows k c K
  | _ => evOp P G ρ rows k (.call c) K
 | op => evOp P G ρ rows k op K
def putS (tmps : List SV) : Option Tmp → SV → List SV
 | some d, s => tmps.set d s
 | none, _ => tmps
def guardS (all : List Oper) (tmps : List SV) (g : Nat × Bool) : Option (Nat × Bool) :=
 match (all[g.1]?).bind (·.dst) with
 | some t => match tmps.getD t .any with
  | .bool b => some (t, b)
  | _ => none
 | none => none
def isU : SV → Bool
 | .c (.tuple ⟨[]⟩) => true
 | _ => false
def guardU (all : List Oper) (tmps : List SV) (j : Nat) : Bool :=
 match (all[j]?).bind (·.dst) with
 | some t => isU (tmps.getD t .any)
 | none => false
def isV : Op → Bool
 | .call c => match c.callee with
  | .value _ => true
  | _ => false
 | _ => false
def evV (sp : Table) (ρ : Operand → SV) (rows : Rows) (k : Nat) (op : Op) (K : SV → Rows → Option D) : Option D :=
 match op with
 | .call c => evCall2 sp ρ rows k c K
 | _ => none
theorem evV_ok {P : Program} {G : List (Nat × SV)} {sp : Table} (hsp : TableOK P G sp) {ρ : Operand → SV} {rows : Rows} {k : Nat} {op : Op} {K : SV → Rows → Option D} {r : D} (h : evV sp ρ rows k op K = some r) :
  ∃ s rows', K s rows' = some r ∧ rows.length ≤ rows'.length ∧ VGo P G ρ rows k op s rows' := by
 unfold evV at h
 split at h
 ·exact evCall2_ok hsp h
 ·cases h
def seqOps (P : Program) (G : List (Nat × SV)) (sp : Table) (all : List Oper) : List Oper → Nat → St → (St → Option D) → Option D
 | [], _, st, K => K st
 | o :: rest, k, st, K =>
  let run (tmps : List SV) : Option D :=
   if isS o.op then evS P (operandSV tmps) st.rows k o.op (fun s rows' => seqOps P G sp all rest (k + 1) ⟨putS tmps o.dst s, rows'⟩ K)
   else if isV o.op then evV sp (operandSV tmps) st.rows k o.op (fun s rows' => seqOps P G sp all rest (k + 1) ⟨putS tmps o.dst s, rows'⟩ K)
   else evQ P G sp (operandSV tmps) st.rows k o.op (fun s row => seqOps P G sp all rest (k + 1) ⟨putS tmps o.dst s, setRow st.rows k row⟩ K)
  match o.guard with
  | none => run st.tmps
  | some (j, want) => if guardU all st.tmps j = true then seqOps P G sp all rest (k + 1) ⟨putS st.tmps o.dst (.c undef), st.rows⟩ K else
   match guardS all st.tmps (j, want) with
   | some (t, b) =>
    if b = want then run (st.tmps.set t (.bool want))
    else seqOps P G sp all rest (k + 1) ⟨putS (st.tmps.set t (.bool (!want))) o.dst (.c undef), st.rows⟩ K
   | none => none
section
variable {P : Program} {G : List (Nat × SV)} {sp : Table}
theorem evNext_ok {ρ : Operand → SV} {rows : Rows} {k : Nat} {x : Operand} {K : SV → Rows → Option D} {r : D} (h : evNext ρ rows x K = some r) :
  ∃ s rows', K s rows' = some r ∧ rows'.length = rows.length ∧ SGo P ρ rows k (.next x true) s rows' := by
 unfold evNext at h
 split at h
 ·rename_i n hx
  split at h
  ·rename_i row hrow
   split at h
   ·rename_i hown
    split at h
    ·rename_i s pos hcon
     have base : ∀ (w0 : World) (L : List (Option Loc)) (a : Act) (w : World), (∀ y ∈ (Op.next x true).operands, rep L (ρ y) (a.eval y)) → RowsOK w0 L rows w → ∃ lc, lo L n = some lc ∧ a.eval x = .pointer (some ⟨lc.blk, 0, none⟩) ∧ lc.base = 0 ∧ w.heap[lc.blk]? = some (.stringIter s pos) ∧ RowOK L lc row w := by
      intro w0 L a w hρ hw
      have hr := hρ x (by simp [Op.operands])
      rw [hx] at hr
      simp only [rep] at hr
      obtain ⟨lc, hlc, hv⟩ := hr
      have ok := hw.row n row lc hrow hlc
      obtain ⟨h1, h2⟩ := ok.obj s pos hcon
      exact ⟨lc, hlc, by rw [hv, h1], h1, h2, ok⟩
     split at h
     ·rename_i hp
      refine ⟨_, _, h, by simp, fun w0 o ho L a w hρ hw hk hlk _ => ?_⟩
      obtain ⟨lc, hlc, hv, hb0, hobj, ok⟩ := base w0 L a w hρ hw
      have hnlt : n < rows.length := by
       rcases Nat.lt_or_ge n rows.length with h' | h'
       ·exact h'
       ·rw [List.getElem?_eq_none h'] at hrow; cases hrow
      have hblk := hw.new n row lc hrow hlc hown
      have hsame : ({ w with heap := w.heap.setIfInBounds lc.blk (.stringIter s (pos + (Utf8.decode s pos).2)) } : World).heap[lc.blk]? = some (.stringIter s (pos + (Utf8.decode s pos).2)) := by
       show (w.heap.setIfInBounds _ _)[lc.blk]? = _
       rw [Array.getElem?_setIfInBounds_self_of_lt ok.blk]
      have hother : ∀ b, b ≠ lc.blk → ({ w with heap := w.heap.setIfInBounds lc.blk (.stringIter s (pos + (Utf8.decode s pos).2)) } : World).heap[b]? = w.heap[b]? := fun b hb => by
       show (w.heap.setIfInBounds _ _)[b]? = _
       rw [Array.getElem?_setIfInBounds_ne (fun e => hb e.symm)]
      have hbelow : Below w0.heap.size w0 { w with heap := w.heap.setIfInBounds lc.blk (.stringIter s (pos + (Utf8.decode s pos).2)) } :=
       ⟨hw.below.os, hw.below.tape, hw.below.output, by simpa using hw.below.size, fun j hj => by rw [hother j (by omega)]; exact hw.below.block j hj⟩
      have hlen0 : ∀ j, j < lc.size → False := fun j hj => by
       obtain ⟨v, hv'⟩ := ok.all hown j hj
       unfold World.cell? at hv'
       simp only [] at hv'
       rw [hobj] at hv'
       cases hv'
      have rowok : RowOK L lc ⟨.sit s (pos + (Utf8.decode s pos).2), true⟩ { w with heap := w.heap.setIfInBounds lc.blk (.stringIter s (pos + (Utf8.decode s pos).2)) } :=
       ⟨Nat.zero_le _, by simpa using ok.blk, fun j hj => absurd hj (Nat.not_lt_zero _), fun _ j hj => (hlen0 j hj).elim, fun _ j hj => (hlen0 j hj).elim, fun s' p' hs' => by cases hs'; exact ⟨hb0, hsame⟩⟩
      have hw' := hw.rewrite hrow hlc hown hnlt (.inr rfl) hbelow (by simp) hother rowok
      rw [set_none_set, lset_self hlc] at hw'
      refine Goes.value (v := .tuple ⟨[.bool true, .int .i64 pos, .int .i32 (Utf8.decode s pos).1]⟩) ?_ ⟨L, Ext.refl k L, ?_, hw'⟩
      ·simp only [execOp, ho, hv, Instr.next]
       have hg : (getObj lc.blk).run P w = .ok (.stringIter s pos) w := by simp [getObj, Sem.run, hobj]
       have hset : (setObj lc.blk (.stringIter s (pos + (Utf8.decode s pos).2))).run P w = .ok () { w with heap := w.heap.setIfInBounds lc.blk (.stringIter s (pos + (Utf8.decode s pos).2)) } := by simp [setObj, Sem.run, hobj]
       simp only [Sem.run_bind, hg, Result.andThen_ok, hp, if_true, hset, Sem.run_pure]
       rfl
      ·simp only [rep]
       exact ⟨_, rfl, by simp only [reps]; exact ⟨_, _, rfl, rfl, _, _, rfl, rfl, _, _, rfl, rfl, rfl⟩⟩
     ·rename_i hp
      refine ⟨_, _, h, rfl, fun w0 o ho L a w hρ hw hk hlk _ => ?_⟩
      obtain ⟨lc, hlc, hv, hb0, hobj, ok⟩ := base w0 L a w hρ hw
      refine Goes.value (v := .tuple ⟨[.bool false]⟩) (w' := w) ?_ ⟨L, Ext.refl k L, ?_, hw⟩
      ·simp only [execOp, ho, hv, Instr.next]
       have hg : (getObj lc.blk).run P w = .ok (.stringIter s pos) w := by simp [getObj, Sem.run, hobj]
       simp only [Sem.run_bind, hg, Result.andThen_ok, hp, if_false, Sem.run_pure]
      ·simp only [rep]
       exact ⟨_, rfl, by simp only [reps]; exact ⟨_, _, rfl, rfl, rfl⟩⟩
    ·cases h
   ·cases h
  ·cases h
 ·cases h
theorem evS_ok {ρ : Operand → SV} {rows : Rows} {k : Nat} {op : Op} {K : SV → Rows → Option D} {r : D} (h : evS P ρ rows k op K = some r) :
  ∃ s rows', K s rows' = some r ∧ rows'.length = rows.length ∧ SGo P ρ rows k op s rows' := by
 unfold evS at h
 split at h
 ·obtain ⟨rows', h1, h2, h3⟩ := evStore_ok (k := k) h
  exact ⟨_, rows', h1, h2, h3⟩
 ·exact evNext_ok h
 ·split at h
  ·split at h
   ·exact evAppendM_ok h
   ·exact evAppend_ok h
  ·cases h
 ·cases h
theorem evQ_ok (hsp : TableOK P G sp) {ρ : Operand → SV} {rows : Rows} {k : Nat} {op : Op} {K : OpK D} {r : D} (h : evQ P G sp ρ rows k op K = some r) : ∃ s row, K s row = some r ∧ QGo P G ρ rows k op s row := by
 unfold evQ at h
 split at h
 ·split at h
  ·exact evCall_ok hsp h
  ·exact evOp_ok h
 ·exact evOp_ok h
theorem setRow_length (rows : Rows) (k : Nat) (row : Option SV) : (setRow rows k row).length = rows.length := by
 cases row <;> simp [setRow]
theorem reps_put {L : List (Option Loc)} {tmps : List SV} {a : Act} {d : Option Tmp} {s : SV} {v : Value} (h : reps L tmps a.tmps.toList) (hv : rep L s v) : reps L (putS tmps d s) (a.put d v).tmps.toList := by
 cases d with
 | none => exact h
 | some d => simp only [putS, Act.put, Array.toList_setIfInBounds]; exact reps_set d h hv
theorem put_defers {a : Act} {d : Option Tmp} {v : Value} : (a.put d v).defers = a.defers := by cases d <;> rfl
def Free (L : List (Option Loc)) (n k : Nat) : Prop := ∀ i, k ≤ i → i < n → lo L i = none
theorem set_lit {tmps : List SV} {t : Nat} {b c : Bool} (hb : tmps.getD t .any = .bool b) (hc : b = c) : tmps.set t (.bool c) = tmps := by
 subst hc
 apply List.ext_getElem?
 intro i
 rw [List.getElem?_set]
 split
 ·rename_i e; subst e
  split
  ·rename_i hlt
   rw [List.getD_eq_getElem?_getD, List.getElem?_eq_getElem hlt] at hb
   simp only [Option.getD_some] at hb
   rw [List.getElem?_eq_getElem hlt, hb]
  ·rename_i hlt
   rw [List.getElem?_eq_none (by omega)]
 ·rfl
theorem guardS_ok {all : List Oper} {tmps : List SV} {g : Nat × Bool} {t : Nat} {b : Bool} (h : guardS all tmps g = some (t, b)) : (all[g.1]?).bind (·.dst) = some t ∧ tmps.getD t .any = .bool b := by
 unfold guardS at h
 split at h
 ·rename_i t' ht
  split at h
  ·rename_i b' hb
   simp only [Option.some.injEq, Prod.mk.injEq] at h
   obtain ⟨rfl, rfl⟩ := h
   exact ⟨ht, hb⟩
  ·cases h
 ·cases h
theorem wanted_guard {all : List Oper} {o : Oper} {j : Nat} {want b : Bool} {t : Nat} {L : List (Option Loc)} {tmps : List SV} {a : Act} (hg : o.guard = some (j, want)) (hd : (all[j]?).bind (·.dst) = some t) (hb : tmps.getD t .any = .bool b)
  (hr : reps L tmps a.tmps.toList) : Region.wanted o (yielded all.toArray a.tmps) = (b == want) := by
 unfold Region.wanted
 rw [hg]
 simp only [yielded]
 have ht : t < tmps.length := by
  rcases Nat.lt_or_ge t tmps.length with h | h
  ·exact h
  ·rw [List.getD_eq_getElem?_getD, List.getElem?_eq_none h] at hb; cases hb
 obtain ⟨v, h1, h2⟩ := reps_get hr t ht
 rw [hb] at h2
 simp only [rep] at h2; subst h2
 have h1' : a.tmps[t]? = some (.bool b) := by simpa using h1
 have hd' : (all.toArray[j]?).bind (·.dst) = some t := by simpa using hd
 rw [hd']
 simp only [Option.bind_some, h1']
 cases b <;> cases want <;> rfl
theorem isU_eq {s : SV} (h : isU s = true) : s = .c undef := by
 unfold isU at h
 split at h
 ·rfl
 ·cases h
theorem guardU_ok {all : List Oper} {tmps : List SV} {j : Nat} (h : guardU all tmps j = true) : ∃ t, (all[j]?).bind (·.dst) = some t ∧ tmps.getD t .any = .c undef := by
 unfold guardU at h
 split at h
 ·rename_i t ht
  exact ⟨t, ht, isU_eq h⟩
 ·cases h
theorem wanted_undef {all : List Oper} {o : Oper} {j : Nat} {want : Bool} {t : Nat} {L : List (Option Loc)} {tmps : List SV} {a : Act} (hg : o.guard = some (j, want)) (hd : (all[j]?).bind (·.dst) = some t) (hb : tmps.getD t .any = .c undef)
  (hr : reps L tmps a.tmps.toList) : Region.wanted o (yielded all.toArray a.tmps) = false := by
 unfold Region.wanted
 rw [hg]
 simp only [yielded]
 have ht : t < tmps.length := by
  rcases Nat.lt_or_ge t tmps.length with h | h
  ·exact h
  ·rw [List.getD_eq_getElem?_getD, List.getElem?_eq_none h] at hb; cases hb
 obtain ⟨v, h1, h2⟩ := reps_get hr t ht
 rw [hb] at h2
 simp only [rep] at h2; subst h2
 have h1' : a.tmps[t]? = some undef := by simpa using h1
 have hd' : (all.toArray[j]?).bind (·.dst) = some t := by simpa using hd
 rw [hd']
 simp only [Option.bind_some, h1']
 cases want <;> rfl
theorem seqOps_ok (hsp : TableOK P G sp) {all : List Oper} : ∀ (rest : List Oper) (k : Nat) (st : St) (K : St → Option D) (r : D), seqOps P G sp all rest k st K = some r →
  ∃ st', K st' = some r ∧ st.rows.length ≤ st'.rows.length ∧ ∀ (w0 : World) (L : List (Option Loc)) (a : Act) (w : World) (n : Nat), Glob G w0 → Rel w0 L st a w → Free L n k → k + rest.length ≤ n → n ≤ st.rows.length →
   ∀ (Q : Exit → Act → World → Prop), (∀ L' a' w', Rel w0 L' st' a' w' → Free L' n (k + rest.length) → Q .normal a' w') → wpList P all.toArray Q rest a w
 | [], k, st, K, r, h => ⟨st, h, Nat.le_refl _, fun _ L a w _ _ hrel hfree _ _ Q hQ => hQ L a w hrel hfree⟩
 | o :: rest, k, st, K, r, h => by
  rw [seqOps] at h
  -- the run of the operation
  have runs : ∀ (tmps : List SV), (if isS o.op then evS P (operandSV tmps) st.rows k o.op (fun s rows' => seqOps P G sp all rest (k + 1) ⟨putS tmps o.dst s, rows'⟩ K)
    else if isV o.op then evV sp (operandSV tmps) st.rows k o.op (fun s rows' => seqOps P G sp all rest (k + 1) ⟨putS tmps o.dst s, rows'⟩ K)
    else evQ P G sp (operandSV tmps) st.rows k o.op (fun s row => seqOps P G sp all rest (k + 1) ⟨putS tmps o.dst s, setRow st.rows k row⟩ K)) = some r →
    ∃ st', K st' = some r ∧ st.rows.length ≤ st'.rows.length ∧ ∀ (w0 : World) (L : List (Option Loc)) (a : Act) (w : World) (n : Nat), Glob G w0 → Rel w0 L ⟨tmps, st.rows⟩ a w → Free L n k → k + (rest.length + 1) ≤ n → n ≤ st.rows.length →
     ∀ (Q : Exit → Act → World → Prop), (∀ L' a' w', Rel w0 L' st' a' w' → Free L' n (k + (rest.length + 1)) → Q .normal a' w') → o.wp P a w (wpList P all.toArray Q rest) Q := by
   intro tmps hrun
   split at hrun
   ·obtain ⟨s, rows', h1, h2, h3⟩ := evS_ok hrun
    obtain ⟨st', h4, h5, h6⟩ := seqOps_ok hsp rest (k + 1) _ K r h1
    refine ⟨st', h4, by simp only [] at h5; omega, fun w0 L a w n hG hrel hfree hlen hn Q hQ => ?_⟩
    refine h3 w0 o rfl L a w (fun x _ => operand_rep hrel.tmps x) hrel.rows (by omega) (hfree k (Nat.le_refl _) (by omega)) hrel.defers _ Q fun v w' ⟨L', e1, e2, e3⟩ => ?_
    refine h6 w0 L' _ w' n hG ⟨by rw [put_defers]; exact hrel.defers, reps_put (reps_mono e1.mono hrel.tmps) e2, e3⟩ (fun i hi hi2 => ?_) (by omega) (by simp only []; omega) Q (fun L2 a2 w2 hr2 hf2 => hQ L2 a2 w2 hr2 (by rw [show k + (rest.length + 1) = k + 1 + rest.length by omega]; exact hf2))
    rw [e1.other i (by omega)]
    exact hfree i (by omega) hi2
   split at hrun
   ·obtain ⟨s, rows', h1, h2, h3⟩ := evV_ok (P := P) hsp hrun
    obtain ⟨st', h4, h5, h6⟩ := seqOps_ok hsp rest (k + 1) _ K r h1
    refine ⟨st', h4, by simp only [] at h5; omega, fun w0 L a w n hG hrel hfree hlen hn Q hQ => ?_⟩
    refine h3 w0 o rfl L a w (fun x _ => operand_rep hrel.tmps x) hrel.rows (by omega) (hfree k (Nat.le_refl _) (by omega)) hG hrel.defers _ Q fun v w' ⟨L', e1, e2, e3⟩ => ?_
    refine h6 w0 L' _ w' n hG ⟨by rw [put_defers]; exact hrel.defers, reps_put (reps_mono e1.mono hrel.tmps) e2, e3⟩ (fun i hi hi2 => ?_) (by omega) (by simp only []; omega) Q (fun L2 a2 w2 hr2 hf2 => hQ L2 a2 w2 hr2 (by rw [show k + (rest.length + 1) = k + 1 + rest.length by omega]; exact hf2))
    rw [e1.other i (by omega) (by rw [hrel.rows.size]; simp only []; omega)]
    exact hfree i (by omega) hi2
   ·obtain ⟨s, row, h1, h3⟩ := evQ_ok hsp hrun
    obtain ⟨st', h4, h5, h6⟩ := seqOps_ok hsp rest (k + 1) _ K r h1
    refine ⟨st', h4, by simp only [setRow_length] at h5; omega, fun w0 L a w n hG hrel hfree hlen hn Q hQ => ?_⟩
    refine h3 w0 o rfl L a w st.rows (fun x _ => operand_rep hrel.tmps x) hrel.rows sub.refl (fun _ => ⟨by omega, hfree k (Nat.le_refl _) (by omega)⟩) hG hrel.defers _ Q fun v w' ⟨L', e1, e2, e3⟩ => ?_
    refine h6 w0 L' _ w' n hG ⟨by rw [put_defers]; exact hrel.defers, reps_put (reps_mono e1.mono hrel.tmps) e2, e3⟩ (fun i hi hi2 => ?_) (by omega) (by simp only [setRow_length]; omega) Q (fun L2 a2 w2 hr2 hf2 => hQ L2 a2 w2 hr2 (by rw [show k + (rest.length + 1) = k + 1 + rest.length by omega]; exact hf2))
    rw [e1.other i (by omega)]
    exact hfree i (by omega) hi2
  simp only [] at h
  split at h
  ·rename_i hg
   obtain ⟨st', h1, h2, h3⟩ := runs st.tmps h
   refine ⟨st', h1, h2, fun w0 L a w n hG hrel hfree hlen hn Q hQ => ?_⟩
   have hw : Region.wanted o (yielded all.toArray a.tmps) = true := by unfold Region.wanted; rw [hg]
   rw [wpList, if_pos hw]
   exact .inl (h3 w0 L a w n hG hrel hfree hlen hn Q hQ)
  ·rename_i j want hg
   split at h
   ·rename_i hU
    obtain ⟨t, g1, g2⟩ := guardU_ok hU
    obtain ⟨st', h4, h5, h6⟩ := seqOps_ok hsp rest (k + 1) _ K r h
    refine ⟨st', h4, h5, fun w0 L a w n hG hrel hfree hlen hn Q hQ => ?_⟩
    have hw : ¬ Region.wanted o (yielded all.toArray a.tmps) = true := by rw [wanted_undef hg g1 g2 hrel.tmps]; simp
    rw [wpList, if_neg hw]
    exact h6 w0 L _ w n hG ⟨by rw [put_defers]; exact hrel.defers, reps_put hrel.tmps (by simp only [rep]), hrel.rows⟩ (fun i hi hi2 => hfree i (by omega) hi2) (by simp only [List.length_cons] at hlen; omega) hn Q
     (fun L2 a2 w2 hr2 hf2 => hQ L2 a2 w2 hr2 (by rw [List.length_cons, show k + (rest.length + 1) = k + 1 + rest.length by omega]; exact hf2))
   split at h
   ·rename_i t b hgs
    obtain ⟨g1, g2⟩ := guardS_ok hgs
    split at h
    ·rename_i hbw
     rw [set_lit g2 hbw] at h
     obtain ⟨st', h1, h2, h3⟩ := runs st.tmps h
     refine ⟨st', h1, h2, fun w0 L a w n hG hrel hfree hlen hn Q hQ => ?_⟩
     have hw : Region.wanted o (yielded all.toArray a.tmps) = true := by rw [wanted_guard hg g1 g2 hrel.tmps, hbw]; simp
     rw [wpList, if_pos hw]
     exact .inl (h3 w0 L a w n hG hrel hfree hlen hn Q hQ)
    ·rename_i hbw
     have hb' : b = !want := by cases b <;> cases want <;> simp at hbw ⊢
     rw [set_lit g2 hb'] at h
     obtain ⟨st', h4, h5, h6⟩ := seqOps_ok hsp rest (k + 1) _ K r h
     refine ⟨st', h4, h5, fun w0 L a w n hG hrel hfree hlen hn Q hQ => ?_⟩
     have hw : ¬ Region.wanted o (yielded all.toArray a.tmps) = true := by rw [wanted_guard hg g1 g2 hrel.tmps, hb']; cases want <;> simp
     rw [wpList, if_neg hw]
     exact h6 w0 L _ w n hG ⟨by rw [put_defers]; exact hrel.defers, reps_put hrel.tmps (by simp only [rep]), hrel.rows⟩ (fun i hi hi2 => hfree i (by omega) hi2) (by simp only [List.length_cons] at hlen; omega) hn Q
      (fun L2 a2 w2 hr2 hf2 => hQ L2 a2 w2 hr2 (by rw [List.length_cons, show k + (rest.length + 1) = k + 1 + rest.length by omega]; exact hf2))
   ·cases h
end
end Go.Ev

/-
  Part of the proof; what its functions and lemmas say stands in the text.
-/
import Derived.Test.YtakonchpkchfhaaDoorEv10
set_option linter.unusedSimpArgs false
set_option linter.unusedVariables false
/-!
What a call takes and gives, as data; calls.
-/
namespace Go.Ev
open Go.RowKit

inductive D where
  | any
  | bool (b : Bool)
  | i (k : IntKind) (n : Int)
  | u8 (x : BitVec 8)
  | u16 (x : BitVec 16)
  | u32 (x : BitVec 32)
  | u64 (x : BitVec 64)
  | f (k : FloatKind) (x : Nat)
  | nan (k : FloatKind)
  | c (v : Value)
  | ref (l : List D)
  | refI (k : IntKind) (l : List Int)
  | ref8 (l : List (BitVec 8))
  | ref64 (l : List (BitVec 64))
  | sl (l : List D)
  | slI (k : IntKind) (l : List Int)
  | sl8 (l : List (BitVec 8))
  | sl64 (l : List (BitVec 64))
  | agg (l : List D)
  | ai (k : IntKind) (l : List Int)
  | a8 (l : List (BitVec 8))
  | a64 (l : List (BitVec 64))
  | tup (l : List D)
  | clo (f : Nat) (l : List D)
  deriving Inhabited

/-- n cells from there on hold what g says. -/
def holds (w : World) (b o n : Nat) (g : Nat → Value) : Prop := ∀ j, j < n → w.cell? ⟨b, o + j, none⟩ = some (g j)
/-- The call's own: cells that may be written. -/
def owned (base : Nat) (w : World) (b o n : Nat) : Prop := base ≤ b ∧ ∀ j, j < n → (∃ v, w.cell? ⟨b, o + j, none⟩ = some v) ∧ w.frozen? ⟨b, o + j, none⟩ = false

mutual
/-- How data lie in memory. own: the slices are the call's own, from a block on. -/
def lies (own : Option Nat) (w : World) : D → Value → Prop
  | .any, _ => True
  | .bool b, v => v = .bool b
  | .i k n, v => v = .int k n
  | .u8 x, v => v = .int .u8 (x.toNat : Int)
  | .u16 x, v => v = .int .u16 (x.toNat : Int)
  | .u32 x, v => v = .int .u32 (x.toNat : Int)
  | .u64 x, v => v = .int .u64 (x.toNat : Int)
  | .f k x, v => v = .float k x
  | .nan k, v => ∃ x, v = .float k x ∧ (k.decode x).isNaN = true
  | .c u, v => v = u
  | .ref l, v => ∃ b o, v = .pointer (some ⟨b, o, none⟩) ∧ b < w.heap.size ∧ lieAt own w b o l
  | .refI k l, v => ∃ b o, v = .pointer (some ⟨b, o, none⟩) ∧ b < w.heap.size ∧ holds w b o l.length fun j => vi k (l.getD j 0)
  | .ref8 l, v => ∃ b o, v = .pointer (some ⟨b, o, none⟩) ∧ b < w.heap.size ∧ holds w b o l.length fun j => v8 (l.getD j 0)
  | .ref64 l, v => ∃ b o, v = .pointer (some ⟨b, o, none⟩) ∧ b < w.heap.size ∧ holds w b o l.length fun j => v64 (l.getD j 0)
  | .sl l, v => ∃ b o cap, v = .slice (some ⟨b, o, none⟩) l.length cap ∧ b < w.heap.size ∧ l.length ≤ cap ∧ lieAt own w b o l ∧ ∀ base, own = some base → owned base w b o cap
  | .slI k l, v => ∃ b o cap, v = .slice (some ⟨b, o, none⟩) l.length cap ∧ b < w.heap.size ∧ l.length ≤ cap ∧ (holds w b o l.length fun j => vi k (l.getD j 0)) ∧ ∀ base, own = some base → owned base w b o cap
  | .sl8 l, v => ∃ b o cap, v = .slice (some ⟨b, o, none⟩) l.length cap ∧ b < w.heap.size ∧ l.length ≤ cap ∧ (holds w b o l.length fun j => v8 (l.getD j 0)) ∧ ∀ base, own = some base → owned base w b o cap
  | .sl64 l, v => ∃ b o cap, v = .slice (some ⟨b, o, none⟩) l.length cap ∧ b < w.heap.size ∧ l.length ≤ cap ∧ (holds w b o l.length fun j => v64 (l.getD j 0)) ∧ ∀ base, own = some base → owned base w b o cap
  | .agg l, v => ∃ cs, v = .agg ⟨cs⟩ ∧ lie own w l cs
  | .ai k l, v => v = .agg ⟨l.map (vi k)⟩
  | .a8 l, v => v = .agg ⟨l.map v8⟩
  | .a64 l, v => v = .agg ⟨l.map v64⟩
  | .tup l, v => ∃ cs, v = .tuple ⟨cs⟩ ∧ lie own w l cs
  | .clo f l, v => ∃ cs, v = .func (.func f) #[] ⟨cs⟩ ∧ lie own w l cs
def lie (own : Option Nat) (w : World) : List D → List Value → Prop
  | [], vs => vs = []
  | d :: l, vs => ∃ v t, vs = v :: t ∧ lies own w d v ∧ lie own w l t
def lieAt (own : Option Nat) (w : World) (b o : Nat) : List D → Prop
  | [] => True
  | d :: l => (∃ u, w.cell? ⟨b, o, none⟩ = some u ∧ lies own w d u) ∧ lieAt own w b (o + 1) l
end

abbrev Spec := List D → (D → Option D) → Option D

/-- The call comes back, with this; what was there is as it was. -/
def CallsTo (P : Program) (f : FuncId) (args : List Value) (w : World) (d : D) : Prop :=
  Calls P f ⟨args⟩ w fun e w' => ∃ v, e = .returned v ∧ Below w.heap.size w w' ∧ lies (some w.heap.size) w' d v

def CallGo (P : Program) (f : FuncId) (args : List Value) (w : World) (d : D) : Prop :=
  (∃ v w', (callFunc f ⟨args⟩).run P w = .ok (.value v) w' ∧ Below w.heap.size w w' ∧ lies (some w.heap.size) w' d v) ∨
  ((callFunc f ⟨args⟩).run P w = .ok (.enter f ⟨args⟩) w ∧ CallsTo P f args w d)

def Sound (P : Program) (G : List (Nat × SV)) (f : FuncId) (s : Spec) : Prop :=
  ∀ ds K r, s ds K = some r → ∃ d, K d = some r ∧ ∀ w args, Glob G w → lie none w ds args → CallGo P f args w d

/-! ### From symbolic values to data and back -/
def mapO {α β : Type} (f : α → Option β) : List α → Option (List β)
  | [] => some []
  | x :: l => match f x, mapO f l with | some y, some t => some (y :: t) | _, _ => none

/-- own: slices must be the call's own. -/
def reify (own : Bool) (rows : Rows) : Nat → SV → Option D
  | 0, _ => none
  | m + 1, s => match s with
    | .any => some .any
    | .bool b => some (.bool b)
    | .i k n => some (.i k n)
    | .u8 x => some (.u8 x)
    | .u16 x => some (.u16 x)
    | .u32 x => some (.u32 x)
    | .u64 x => some (.u64 x)
    | .f k x => some (.f k x)
    | .nan k => some (.nan k)
    | .c v => some (.c v)
    | .gl _ => none
    | .ptr r off => if own then none else match rows[r]? with
      | some (some row) => match row.con with
        | .agg l => match mapO (reify own rows m) (l.drop off) with | some t => some (.ref t) | none => none
        | .ai k l => match off with | 0 => some (.refI k l) | _ + 1 => none
        | .a8 l => match off with | 0 => some (.ref8 l) | _ + 1 => none
        | .a64 l => match off with | 0 => some (.ref64 l) | _ + 1 => none
        | _ => none
      | _ => none
    | .sl r off len => match rows[r]? with
      | some (some row) => if own && !row.own then none else match row.con with
        | .agg l => if off + len ≤ l.length then match mapO (reify own rows m) ((l.drop off).take len) with | some t => some (.sl t) | none => none else none
        | .ai k l => if off + len ≤ l.length then some (.slI k ((l.drop off).take len)) else none
        | .a8 l => if off + len ≤ l.length then some (.sl8 ((l.drop off).take len)) else none
        | .a64 l => if off + len ≤ l.length then some (.sl64 ((l.drop off).take len)) else none
        | _ => none
      | _ => none
    | .agg l => match mapO (reify own rows m) l with | some t => some (.agg t) | none => none
    | .ai k l => some (.ai k l)
    | .a8 l => some (.a8 l)
    | .a64 l => some (.a64 l)
    | .tup l => match mapO (reify own rows m) l with | some t => some (.tup t) | none => none
    | .clo f l => match mapO (reify own rows m) l with | some t => some (.clo f t) | none => none

/-- The same, with the lengths not asked. -/
def reifyU (own : Bool) (rows : Rows) : Nat → SV → Option D
  | 0, _ => none
  | m + 1, s => match s with
    | .any => some .any
    | .bool b => some (.bool b)
    | .i k n => some (.i k n)
    | .u8 x => some (.u8 x)
    | .u16 x => some (.u16 x)
    | .u32 x => some (.u32 x)
    | .u64 x => some (.u64 x)
    | .f k x => some (.f k x)
    | .nan k => some (.nan k)
    | .c v => some (.c v)
    | .gl _ => none
    | .ptr r off => if own then none else match rows[r]? with
      | some (some row) => match row.con with
        | .agg l => match mapO (reifyU own rows m) (l.drop off) with | some t => some (.ref t) | none => none
        | .ai k l => match off with | 0 => some (.refI k l) | _ + 1 => none
        | .a8 l => match off with | 0 => some (.ref8 l) | _ + 1 => none
        | .a64 l => match off with | 0 => some (.ref64 l) | _ + 1 => none
        | _ => none
      | _ => none
    | .sl r off len => match rows[r]? with
      | some (some row) => if own && !row.own then none else match row.con with
        | .agg l => match mapO (reifyU own rows m) ((l.drop off).take len) with | some t => some (.sl t) | none => none
        | .ai k l => some (.slI k ((l.drop off).take len))
        | .a8 l => some (.sl8 ((l.drop off).take len))
        | .a64 l => some (.sl64 ((l.drop off).take len))
        | _ => none
      | _ => none
    | .agg l => match mapO (reifyU own rows m) l with | some t => some (.agg t) | none => none
    | .ai k l => some (.ai k l)
    | .a8 l => some (.a8 l)
    | .a64 l => some (.a64 l)
    | .tup l => match mapO (reifyU own rows m) l with | some t => some (.tup t) | none => none
    | .clo f l => match mapO (reifyU own rows m) l with | some t => some (.clo f t) | none => none

/-- The lengths. -/
def okR (rows : Rows) : Nat → SV → Bool
  | 0, _ => true
  | m + 1, s => match s with
    | .ptr r off => match rows[r]? with
      | some (some row) => match row.con with
        | .agg l => (l.drop off).all (okR rows m)
        | _ => true
      | _ => true
    | .sl r off len => match rows[r]? with
      | some (some row) => match row.con with
        | .agg l => decide (off + len ≤ l.length) && ((l.drop off).take len).all (okR rows m)
        | .ai _ l => decide (off + len ≤ l.length)
        | .a8 l => decide (off + len ≤ l.length)
        | .a64 l => decide (off + len ≤ l.length)
        | _ => true
      | _ => true
    | .agg l => l.all (okR rows m)
    | .tup l => l.all (okR rows m)
    | .clo _ l => l.all (okR rows m)
    | _ => true

theorem mapO_congr {α β : Type} {f g : α → Option β} {p : α → Bool} (h : ∀ x y, f x = some y → p x = true → g x = some y) : ∀ {l : List α} {t : List β}, mapO f l = some t → l.all p = true → mapO g l = some t
  | [], t, hm, _ => hm
  | x :: l, t, hm, hp => by
    simp only [List.all_cons, Bool.and_eq_true] at hp
    simp only [mapO] at hm ⊢
    split at hm
    · rename_i y u hy hu
      rw [h x y hy hp.1, mapO_congr h hu hp.2]
      exact hm
    · cases hm

theorem reifyU_ok {own : Bool} {rows : Rows} : ∀ (m : Nat) (s : SV) (d : D), reifyU own rows m s = some d → okR rows m s = true → reify own rows m s = some d := by
  intro m
  induction m with
  | zero => intro s d h; cases h
  | succ m ih =>
    intro s d h hok
    cases s <;> simp only [reifyU, reduceCtorEq] at h <;> simp only [okR] at hok <;> simp only [reify] <;> try exact h
    case ptr r off =>
      split at h
      · cases h
      · rename_i hown
        rw [if_neg hown]
        split at h
        · rename_i row hrow
          rw [hrow] at hok
          simp only [] at hok ⊢
          split at h
          · rename_i l hcon
            rw [hcon] at hok
            simp only [] at hok ⊢
            split at h
            · rename_i t ht
              rw [mapO_congr ih ht hok]; exact h
            · cases h
          · exact h
          · exact h
          · exact h
          · cases h
        · cases h
    case sl r off len =>
      split at h
      · rename_i row hrow
        rw [hrow] at hok
        simp only [] at hok ⊢
        split at h
        · cases h
        · rename_i hown
          rw [if_neg hown]
          split at h
          · rename_i l hcon
            rw [hcon] at hok
            simp only [Bool.and_eq_true, decide_eq_true_eq] at hok ⊢
            rw [if_pos hok.1]
            split at h
            · rename_i t ht
              rw [mapO_congr ih ht hok.2]; exact h
            · cases h
          · rename_i k l hcon
            rw [hcon] at hok
            simp only [decide_eq_true_eq] at hok ⊢
            rw [if_pos hok]; exact h
          · rename_i l hcon
            rw [hcon] at hok
            simp only [decide_eq_true_eq] at hok ⊢
            rw [if_pos hok]; exact h
          · rename_i l hcon
            rw [hcon] at hok
            simp only [decide_eq_true_eq] at hok ⊢
            rw [if_pos hok]; exact h
          · cases h
      · cases h
    case agg l =>
      split at h
      · rename_i t ht
        rw [mapO_congr ih ht hok]; exact h
      · cases h
    case tup l =>
      split at h
      · rename_i t ht
        rw [mapO_congr ih ht hok]; exact h
      · cases h
    case clo f l =>
      split at h
      · rename_i t ht
        rw [mapO_congr ih ht hok]; exact h
      · cases h

theorem mapO_length {α β : Type} {f : α → Option β} : ∀ {l : List α} {t : List β}, mapO f l = some t → t.length = l.length
  | [], t, h => by simp only [mapO, Option.some.injEq] at h; subst h; rfl
  | x :: l, t, h => by
    simp only [mapO] at h
    split at h
    · rename_i y u hy hu
      simp only [Option.some.injEq] at h; subst h
      simp [mapO_length hu]
    · cases h

theorem lie_of {own : Option Nat} {w : World} {L : List (Option Loc)} {f : SV → Option D} (h : ∀ s d v, f s = some d → rep L s v → lies own w d v) : ∀ {l : List SV} {t : List D} {vs : List Value}, mapO f l = some t → reps L l vs → lie own w t vs
  | [], t, vs, hm, hr => by simp only [mapO, Option.some.injEq] at hm; subst hm; simpa [reps, lie] using hr
  | x :: l, t, vs, hm, hr => by
    simp only [mapO] at hm
    split at hm
    · rename_i y u hy hu
      simp only [Option.some.injEq] at hm; subst hm
      simp only [reps] at hr
      obtain ⟨v, vt, rfl, hv, hr⟩ := hr
      simp only [lie]
      exact ⟨v, vt, rfl, h x y v hy hv, lie_of h hu hr⟩
    · cases hm
theorem lieAt_of {own : Option Nat} {w : World} {L : List (Option Loc)} {f : SV → Option D} (h : ∀ s d v, f s = some d → rep L s v → lies own w d v) : ∀ {l : List SV} {t : List D} (b o : Nat), mapO f l = some t →
    (∀ j, j < l.length → ∃ v, w.cell? ⟨b, o + j, none⟩ = some v ∧ rep L (l.getD j .any) v) → lieAt own w b o t
  | [], t, b, o, hm, _ => by simp only [mapO, Option.some.injEq] at hm; subst hm; simp [lieAt]
  | x :: l, t, b, o, hm, hc => by
    simp only [mapO] at hm
    split at hm
    · rename_i y u hy hu
      simp only [Option.some.injEq] at hm; subst hm
      simp only [lieAt]
      refine ⟨?_, lieAt_of h b (o + 1) hu fun j hj => ?_⟩
      · obtain ⟨v, h1, h2⟩ := hc 0 (by simp)
        exact ⟨v, by simpa using h1, h x y v hy (by simpa using h2)⟩
      · obtain ⟨v, h1, h2⟩ := hc (j + 1) (by simpa using hj)
        exact ⟨v, by rw [← h1]; congr 2; omega, by simpa using h2⟩
    · cases hm

theorem reify_ok {own : Bool} {w0 w : World} {L : List (Option Loc)} {rows : Rows} (hw : RowsOK w0 L rows w) :
    ∀ (m : Nat) (s : SV) (d : D) (v : Value), reify own rows m s = some d → rep L s v → lies (if own then some w0.heap.size else none) w d v := by
  intro m
  induction m with
  | zero => intro s d v h; cases h
  | succ m ih =>
    intro s d v h hr
    have slc : ∀ (r off len : Nat) (row : Row), rows[r]? = some (some row) → (own && !row.own) = false → off + len ≤ row.con.len → rep L (.sl r off len) v →
        ∃ b o cap, v = .slice (some ⟨b, o, none⟩) len cap ∧ b < w.heap.size ∧ len ≤ cap ∧ (∀ j, j < len → ∃ u, w.cell? ⟨b, o + j, none⟩ = some u ∧ rep L (row.con.cell (off + j)) u) ∧ ∀ base, (if own then some w0.heap.size else none) = some base → owned base w b o cap := by
      intro r off len row hrow hown hle hr
      simp only [rep] at hr
      obtain ⟨lc, cap, hlc, h1, h2, hv⟩ := hr
      have ok := hw.row r row lc hrow hlc
      refine ⟨lc.blk, lc.base + off, cap, hv, ok.blk, h1, fun j hj => ?_, fun base hbase => ?_⟩
      · rw [Nat.add_assoc]; exact ok.cell (off + j) (by omega)
      · split at hbase
        · rename_i ho
          simp only [Option.some.injEq] at hbase; subst hbase
          have hro : row.own = true := by rw [ho] at hown; simpa using hown
          refine ⟨hw.new r row lc hrow hlc hro, fun j hj => ⟨?_, ?_⟩⟩
          · rw [Nat.add_assoc]; exact ok.all hro (off + j) (by omega)
          · rw [Nat.add_assoc]; exact ok.free hro (off + j) (by omega)
        · cases hbase
    cases s <;> simp only [reify, reduceCtorEq, Option.some.injEq] at h
    case any => subst h; simp only [lies]
    case bool => subst h; simpa only [lies, rep] using hr
    case i => subst h; simpa only [lies, rep] using hr
    case u8 => subst h; simpa only [lies, rep] using hr
    case u16 => subst h; simpa only [lies, rep] using hr
    case u32 => subst h; simpa only [lies, rep] using hr
    case u64 => subst h; simpa only [lies, rep] using hr
    case f => subst h; simpa only [lies, rep] using hr
    case nan => subst h; simpa only [lies, rep] using hr
    case c => subst h; simpa only [lies, rep] using hr
    case ai => subst h; simpa only [lies, rep] using hr
    case a8 => subst h; simpa only [lies, rep] using hr
    case a64 => subst h; simpa only [lies, rep] using hr
    case ptr r off =>
      split at h
      · cases h
      · rename_i hown
        split at h
        · rename_i row hrow
          have hr' := hr
          simp only [rep] at hr'
          obtain ⟨lc, hlc, hv⟩ := hr'
          have ok := hw.row r row lc hrow hlc
          have cell := ok.cell
          split at h
          · rename_i l hcon
            split at h
            · rename_i t ht
              simp only [Option.some.injEq] at h; subst h
              simp only [lies]
              refine ⟨lc.blk, lc.base + off, hv, ok.blk, lieAt_of ih _ _ ht fun j hj => ?_⟩
              have hj' : off + j < l.length := by simp at hj; omega
              obtain ⟨u, h1, h2⟩ := cell (off + j) (by rw [hcon]; exact hj')
              rw [hcon] at h2
              refine ⟨u, by rw [Nat.add_assoc]; exact h1, ?_⟩
              simp only [SV.cell] at h2
              have e : (l.drop off).getD j .any = l.getD (off + j) .any := by simp [List.getD_eq_getElem?_getD, List.getElem?_drop]
              rw [e]; exact h2
            · cases h
          · rename_i k l hcon
            split at h
            · simp only [Option.some.injEq] at h; subst h
              simp only [lies]
              refine ⟨lc.blk, lc.base + 0, hv, ok.blk, fun j hj => ?_⟩
              obtain ⟨u, h1, h2⟩ := cell j (by rw [hcon]; exact hj)
              rw [hcon] at h2; simp only [SV.cell, rep] at h2
              rw [Nat.add_zero, h1, h2]; rfl
            · cases h
          · rename_i l hcon
            split at h
            · simp only [Option.some.injEq] at h; subst h
              simp only [lies]
              refine ⟨lc.blk, lc.base + 0, hv, ok.blk, fun j hj => ?_⟩
              obtain ⟨u, h1, h2⟩ := cell j (by rw [hcon]; exact hj)
              rw [hcon] at h2; simp only [SV.cell, rep] at h2
              rw [Nat.add_zero, h1, h2]; rfl
            · cases h
          · rename_i l hcon
            split at h
            · simp only [Option.some.injEq] at h; subst h
              simp only [lies]
              refine ⟨lc.blk, lc.base + 0, hv, ok.blk, fun j hj => ?_⟩
              obtain ⟨u, h1, h2⟩ := cell j (by rw [hcon]; exact hj)
              rw [hcon] at h2; simp only [SV.cell, rep] at h2
              rw [Nat.add_zero, h1, h2]; rfl
            · cases h
          · cases h
        · cases h
    case sl r off len =>
      split at h
      · rename_i row hrow
        split at h
        · cases h
        · rename_i hown
          have hown' : (own && !row.own) = false := by simpa using hown
          split at h
          · rename_i l hcon
            split at h
            · rename_i hle
              split at h
              · rename_i t ht
                simp only [Option.some.injEq] at h; subst h
                obtain ⟨b, o, cap, h1, h2, h3, h4, h5⟩ := slc r off len row hrow hown' (by rw [hcon]; exact hle) hr
                have htl : t.length = len := by rw [mapO_length ht]; simp; omega
                simp only [lies]
                refine ⟨b, o, cap, by rw [htl]; exact h1, h2, by rw [htl]; exact h3, lieAt_of ih _ _ ht fun j hj => ?_, h5⟩
                have hj' : j < len := by simp at hj; omega
                obtain ⟨u, h6, h7⟩ := h4 j hj'
                rw [hcon] at h7
                refine ⟨u, h6, ?_⟩
                simp only [SV.cell] at h7
                have e : ((l.drop off).take len).getD j .any = l.getD (off + j) .any := by simp [List.getD_eq_getElem?_getD, hj', List.getElem?_drop]
                rw [e]; exact h7
              · cases h
            · cases h
          · rename_i k l hcon
            split at h
            · rename_i hle
              simp only [Option.some.injEq] at h; subst h
              obtain ⟨b, o, cap, h1, h2, h3, h4, h5⟩ := slc r off len row hrow hown' (by rw [hcon]; exact hle) hr
              have htl : ((l.drop off).take len).length = len := by simp; omega
              simp only [lies]
              refine ⟨b, o, cap, by rw [htl]; exact h1, h2, by rw [htl]; exact h3, fun j hj => ?_, h5⟩
              have hj' : j < len := by rw [htl] at hj; exact hj
              obtain ⟨u, h6, h7⟩ := h4 j hj'
              rw [hcon] at h7
              simp only [SV.cell, rep] at h7
              have e : ((l.drop off).take len).getD j 0 = l.getD (off + j) 0 := by simp [List.getD_eq_getElem?_getD, hj', List.getElem?_drop]
              rw [h6, h7]; simp only [e]; rfl
            · cases h
          · rename_i l hcon
            split at h
            · rename_i hle
              simp only [Option.some.injEq] at h; subst h
              obtain ⟨b, o, cap, h1, h2, h3, h4, h5⟩ := slc r off len row hrow hown' (by rw [hcon]; exact hle) hr
              have htl : ((l.drop off).take len).length = len := by simp; omega
              simp only [lies]
              refine ⟨b, o, cap, by rw [htl]; exact h1, h2, by rw [htl]; exact h3, fun j hj => ?_, h5⟩
              have hj' : j < len := by rw [htl] at hj; exact hj
              obtain ⟨u, h6, h7⟩ := h4 j hj'
              rw [hcon] at h7
              simp only [SV.cell, rep] at h7
              have e : ((l.drop off).take len).getD j 0 = l.getD (off + j) 0 := by simp [List.getD_eq_getElem?_getD, hj', List.getElem?_drop]
              rw [h6, h7]; simp only [e]; rfl
            · cases h
          · rename_i l hcon
            split at h
            · rename_i hle
              simp only [Option.some.injEq] at h; subst h
              obtain ⟨b, o, cap, h1, h2, h3, h4, h5⟩ := slc r off len row hrow hown' (by rw [hcon]; exact hle) hr
              have htl : ((l.drop off).take len).length = len := by simp; omega
              simp only [lies]
              refine ⟨b, o, cap, by rw [htl]; exact h1, h2, by rw [htl]; exact h3, fun j hj => ?_, h5⟩
              have hj' : j < len := by rw [htl] at hj; exact hj
              obtain ⟨u, h6, h7⟩ := h4 j hj'
              rw [hcon] at h7
              simp only [SV.cell, rep] at h7
              have e : ((l.drop off).take len).getD j 0 = l.getD (off + j) 0 := by simp [List.getD_eq_getElem?_getD, hj', List.getElem?_drop]
              rw [h6, h7]; simp only [e]; rfl
            · cases h
          · cases h
      · cases h
    case agg l =>
      split at h
      · rename_i t ht
        simp only [Option.some.injEq] at h; subst h
        simp only [rep] at hr
        obtain ⟨cs, rfl, hr⟩ := hr
        simp only [lies]
        exact ⟨cs, rfl, lie_of ih ht hr⟩
      · cases h
    case tup l =>
      split at h
      · rename_i t ht
        simp only [Option.some.injEq] at h; subst h
        simp only [rep] at hr
        obtain ⟨cs, rfl, hr⟩ := hr
        simp only [lies]
        exact ⟨cs, rfl, lie_of ih ht hr⟩
      · cases h
    case clo f l =>
      split at h
      · rename_i t ht
        simp only [Option.some.injEq] at h; subst h
        simp only [rep] at hr
        obtain ⟨cs, rfl, hr⟩ := hr
        simp only [lies]
        exact ⟨cs, rfl, lie_of ih ht hr⟩
      · cases h
end Go.Ev

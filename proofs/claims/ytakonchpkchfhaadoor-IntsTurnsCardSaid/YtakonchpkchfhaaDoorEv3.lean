/-
  Part of the proof; what its functions and lemmas say stands in the text.
-/
import Derived.Test.YtakonchpkchfhaaDoorEv2
import Derived.Laws.Cover2
set_option linter.unusedSimpArgs false
set_option linter.unusedVariables false
/-!
The operators on symbolic values.
-/
namespace Go.Ev
open Go.RowKit
variable {α : Type}

def binU {w : Nat} (mk : BitVec w → SV) (op : BinOp) (a b : BitVec w) (K : SV → Option α) : Option α :=
  match op with
  | .add => K (mk (a + b))
  | .sub => K (mk (a - b))
  | .mul => K (mk (a * b))
  | .quo => if b = 0#w then none else K (mk (a / b))
  | .rem => if b = 0#w then none else K (mk (a % b))
  | .and => K (mk (a &&& b))
  | .or => K (mk (a ||| b))
  | .xor => K (mk (a ^^^ b))
  | .andNot => K (mk (a &&& ~~~b))
  | .eql => K (.bool (a == b))
  | .neq => K (.bool (!(a == b)))
  | .lss => K (.bool (decide (a < b)))
  | .leq => K (.bool (decide (a ≤ b)))
  | .gtr => K (.bool (decide (b < a)))
  | .geq => K (.bool (decide (b ≤ a)))
  | _ => none

def binI (k : IntKind) (op : BinOp) (a b : Int) (K : SV → Option α) : Option α :=
  match op with
  | .add => K (.i k (k.wrap (a + b)))
  | .sub => K (.i k (k.wrap (a - b)))
  | .mul => K (.i k (k.wrap (a * b)))
  | .quo => if b = 0 then none else K (.i k (k.wrap (a.tdiv b)))
  | .rem => if b = 0 then none else K (.i k (a.tmod b))
  | .and => K (.i k (k.wrap (BitVec.ofInt k.bits a &&& BitVec.ofInt k.bits b).toNat))
  | .or => K (.i k (k.wrap (BitVec.ofInt k.bits a ||| BitVec.ofInt k.bits b).toNat))
  | .xor => K (.i k (k.wrap (BitVec.ofInt k.bits a ^^^ BitVec.ofInt k.bits b).toNat))
  | .eql => K (.bool (a == b))
  | .neq => K (.bool (!(a == b)))
  | .lss => K (.bool (decide (a < b)))
  | .leq => K (.bool (decide (a ≤ b)))
  | .gtr => K (.bool (decide (b < a)))
  | .geq => K (.bool (decide (b ≤ a)))
  | _ => none

def binF (k : FloatKind) (op : BinOp) (a b : Nat) (K : SV → Option α) : Option α :=
  match op with
  | .add => match k.format.add a b with | some r => K (.f k r) | none => K (.nan k)
  | .sub => match k.format.sub a b with | some r => K (.f k r) | none => K (.nan k)
  | .mul => match k.format.mul a b with | some r => K (.f k r) | none => K (.nan k)
  | .quo => match k.format.div a b with | some r => K (.f k r) | none => K (.nan k)
  | .eql => K (.bool (k.format.order a b == some .eq))
  | .neq => K (.bool (!(k.format.order a b == some .eq)))
  | .lss => K (.bool (k.format.order a b == some .lt))
  | .leq => K (.bool (k.format.order a b == some .lt || k.format.order a b == some .eq))
  | .gtr => K (.bool (k.format.order a b == some .gt))
  | .geq => K (.bool (k.format.order a b == some .gt || k.format.order a b == some .eq))
  | _ => none
/-- One of both is no number. -/
def binN (k : FloatKind) (op : BinOp) (K : SV → Option α) : Option α :=
  match op with
  | .add | .sub | .mul | .quo => K (.nan k)
  | .eql | .lss | .leq | .gtr | .geq => K (.bool false)
  | .neq => K (.bool true)
  | _ => none

/-- By how much is moved. -/
def shAmt : SV → Option Nat
  | .u8 x => some x.toNat
  | .u16 x => some x.toNat
  | .u32 x => some x.toNat
  | .u64 x => some x.toNat
  | .i _ n => if 0 ≤ n then some n.toNat else none
  | _ => none
def shU {w : Nat} (mk : BitVec w → SV) (op : BinOp) (a : BitVec w) (n : Nat) (K : SV → Option α) : Option α :=
  match op with
  | .shl => K (mk (a <<< n))
  | .shr => K (mk (a >>> n))
  | _ => none
def shI (k : IntKind) (op : BinOp) (a : Int) (n : Nat) (K : SV → Option α) : Option α :=
  match op with
  | .shl => K (.i k (k.wrap (a * 2 ^ min n k.bits)))
  | .shr => K (.i k (a / 2 ^ min n k.bits))
  | _ => none
def shSV (op : BinOp) (x : SV) (n : Nat) (K : SV → Option α) : Option α :=
  match x with
  | .u8 a => shU .u8 op a n K
  | .u16 a => shU .u16 op a n K
  | .u32 a => shU .u32 op a n K
  | .u64 a => shU .u64 op a n K
  | .i k a => shI k op a n K
  | _ => none

def isSh : BinOp → Bool
  | .shl | .shr => true
  | _ => false

/-- Equality of what has no parts. -/
def eq1 : SV → SV → Option Bool
  | .bool a, .bool b => some (a == b)
  | .i k a, .i k' b => if k = k' then some (a == b) else none
  | .u8 a, .u8 b => some (a == b)
  | .u16 a, .u16 b => some (a == b)
  | .u32 a, .u32 b => some (a == b)
  | .u64 a, .u64 b => some (a == b)
  | _, _ => none
def eqL : List SV → List SV → Option Bool
  | [], [] => some true
  | [x], [y] => eq1 x y
  | x :: l, y :: m => match eq1 x y, eqL l m with | some a, some b => some (a && b) | _, _ => none
  | _, _ => none

def binSV (op : BinOp) (x y : SV) (K : SV → Option α) : Option α :=
  if isSh op then match shAmt y with | some n => shSV op x n K | none => none
  else match x, y with
  | .u8 a, .u8 b => binU .u8 op a b K
  | .u16 a, .u16 b => binU .u16 op a b K
  | .u32 a, .u32 b => binU .u32 op a b K
  | .u64 a, .u64 b => binU .u64 op a b K
  | .i k a, .i k' b => if k = k' then binI k op a b K else none
  | .f k a, .f k' b => if k = k' then binF k op a b K else none
  | .nan k, .f k' _ => if k = k' then binN k op K else none
  | .f k _, .nan k' => if k = k' then binN k op K else none
  | .nan k, .nan k' => if k = k' then binN k op K else none
  | _, _ => none

/-! ### They are the model's -/
/-- A kind of numbers without a sign. -/
structure UK (k : IntKind) (w : Nat) (mk : BitVec w → SV) : Prop where
  bits : k.bits = w
  sign : k.signed = false
  rep : ∀ L x v, rep L (mk x) v ↔ v = .int k (x.toNat : Int)
theorem uk8 : UK .u8 8 .u8 := ⟨rfl, rfl, fun _ _ _ => by simp only [Ev.rep]⟩
theorem uk16 : UK .u16 16 .u16 := ⟨rfl, rfl, fun _ _ _ => by simp only [Ev.rep]⟩
theorem uk32 : UK .u32 32 .u32 := ⟨rfl, rfl, fun _ _ _ => by simp only [Ev.rep]⟩
theorem uk64 : UK .u64 64 .u64 := ⟨rfl, rfl, fun _ _ _ => by simp only [Ev.rep]⟩

theorem two_pow_ne (w : Nat) : (2:Int) ^ w ≠ 0 := by
  have h1 : (2:Int) ^ w = ((2 ^ w : Nat) : Int) := by simp
  have := Nat.two_pow_pos w
  rw [h1]; omega
theorem UK.wrap {k : IntKind} {w : Nat} {mk : BitVec w → SV} (h : UK k w mk) (n : Int) : k.wrap n = ((BitVec.ofInt w n).toNat : Int) := by
  unfold IntKind.wrap
  rw [h.bits, h.sign]
  have h0 : (0:Int) ≤ n % 2 ^ w := Int.emod_nonneg _ (two_pow_ne w)
  rw [BitVec.toNat_ofInt]
  simp only [Bool.false_and, Bool.false_eq_true, if_false, Int.natCast_pow, Int.cast_ofNat_Int]
  exact (Int.toNat_of_nonneg h0).symm
theorem ofInt_sub' {w : Nat} (a b : BitVec w) : BitVec.ofInt w ((a.toNat : Int) - (b.toNat : Int)) = a - b := by
  have h : BitVec.ofInt w ((a.toNat : Int) - (b.toNat : Int)) + b = a := by
    have hb : b = BitVec.ofInt w (b.toNat : Int) := by simp
    conv => lhs; rhs; rw [hb]
    rw [← BitVec.ofInt_add, Int.sub_add_cancel]; simp
  have h2 : BitVec.ofInt w ((a.toNat : Int) - (b.toNat : Int)) = BitVec.ofInt w ((a.toNat : Int) - (b.toNat : Int)) + b - b := (BitVec.add_sub_cancel _ _).symm
  rw [h2, h]

theorem ofInt_toNat {w : Nat} (x : BitVec w) : BitVec.ofInt w (x.toNat : Int) = x := by
  apply BitVec.eq_of_toNat_eq; simp

theorem order_nan {f : Ieee.Format} {x y : Nat} (h : (f.read x).isNaN = true) : f.order x y = none := by
  unfold Ieee.Format.order Ieee.Datum.order
  cases hx : f.read x <;> simp [hx, Ieee.Datum.isNaN] at h ⊢
theorem order_nan' {f : Ieee.Format} {x y : Nat} (h : (f.read y).isNaN = true) : f.order x y = none := by
  unfold Ieee.Format.order Ieee.Datum.order
  cases hx : f.read y <;> simp [hx, Ieee.Datum.isNaN] at h ⊢
  cases f.read x <;> rfl

/-- What a binary operator answers. -/
def BinGo (op : BinOp) (x y s : SV) : Prop :=
  ∀ (P : Program) (L : List (Option Loc)) (w : World) (vx vy : Value) (t : TypeId) (ox oy : Operand), rep L x vx → rep L y vy →
    ∃ v w', (do eqGuard op t ox oy vx vy; binOp op t vx vy : Sem Value).run P w = .ok v w' ∧ rep L s v ∧ Below w.heap.size w w'

theorem BinGo.int {op : BinOp} {x y s : SV} {k : IntKind} {a b : Int} (hx : ∀ L v, rep L x v → v = .int k a) (hy : ∀ L v, rep L y v → v = .int k b)
    (h : ∀ (P : Program) (L : List (Option Loc)) (w : World) (t : TypeId), ∃ v, (binOp op t (.int k a) (.int k b)).run P w = .ok v w ∧ rep L s v) : BinGo op x y s := by
  intro P L w vx vy t ox oy rx ry
  rw [hx L vx rx, hy L vy ry]
  obtain ⟨v, h1, h2⟩ := h P L w t
  refine ⟨v, w, ?_, h2, Below.refl _ _⟩
  rw [Sem.run_bind, eqGuard_at_int]
  simpa using h1

theorem beq_cast (a b : Nat) : ((a : Int) == (b : Int)) = (a == b) := by
  rw [Bool.eq_iff_iff]; simp only [beq_iff_eq]; omega
theorem bv_beq {w : Nat} (a b : BitVec w) : (a == b) = ((a.toNat : Int) == (b.toNat : Int)) := by
  rw [beq_cast, Bool.eq_iff_iff]; simp only [beq_iff_eq]; exact BitVec.toNat_inj.symm

set_option maxHeartbeats 1000000 in
theorem binU_ok {k : IntKind} {w : Nat} {mk : BitVec w → SV} (h : UK k w mk) {op : BinOp} {a b : BitVec w} {K : SV → Option α} {r : α} (hr : binU mk op a b K = some r) :
    ∃ s, K s = some r ∧ BinGo op (mk a) (mk b) s := by
  have go : ∀ (s : SV), (∀ (P : Program) (L : List (Option Loc)) (w : World) (t : TypeId), ∃ v, (binOp op t (.int k (a.toNat : Int)) (.int k (b.toNat : Int))).run P w = .ok v w ∧ rep L s v) → BinGo op (mk a) (mk b) s :=
    fun s hs => BinGo.int (fun L v hv => (h.rep L a v).1 hv) (fun L v hv => (h.rep L b v).1 hv) hs
  have goI : ∀ (n : Int) (x : BitVec w), n = (x.toNat : Int) → (∀ (P : Program) (w : World) (t : TypeId), (binOp op t (.int k (a.toNat : Int)) (.int k (b.toNat : Int))).run P w = .ok (.int k n) w) → BinGo op (mk a) (mk b) (mk x) :=
    fun n x hn hrun => go _ fun P L w t => ⟨_, hrun P w t, (h.rep _ _ _).2 (by rw [hn])⟩
  have goB : ∀ (n c : Bool), n = c → (∀ (P : Program) (w : World) (t : TypeId), (binOp op t (.int k (a.toNat : Int)) (.int k (b.toNat : Int))).run P w = .ok (.bool n) w) → BinGo op (mk a) (mk b) (.bool c) :=
    fun n x hn hrun => go _ fun P L w t => ⟨_, hrun P w t, by simp only [rep, hn]⟩
  have hb := h.bits
  have bitsOp : ∀ (f : BitVec k.bits → BitVec k.bits → BitVec k.bits) (g : BitVec w → BitVec w → BitVec w), (∀ e : k.bits = w, ∀ x y, (f x y).toNat = (g (x.cast e) (y.cast e)).toNat) →
      k.wrap ((f (BitVec.ofInt k.bits (a.toNat : Int)) (BitVec.ofInt k.bits (b.toNat : Int))).toNat : Int) = ((g a b).toNat : Int) := by
    intro f g hfg
    rw [h.wrap, hfg hb]
    have e1 : ∀ c : BitVec w, (BitVec.ofInt k.bits (c.toNat : Int)).cast hb = c := by
      intro c; apply BitVec.eq_of_toNat_eq; rw [BitVec.toNat_cast, BitVec.toNat_ofInt, hb]
      have := c.isLt
      have h2 : ((c.toNat : Int) % ((2 ^ w : Nat) : Int)).toNat = c.toNat % 2 ^ w := by rw [← Int.natCast_emod]; rfl
      simp only [Int.natCast_pow, Int.cast_ofNat_Int] at h2 ⊢
      rw [h2, Nat.mod_eq_of_lt this]
    rw [e1, e1]
    simp
  cases op <;> simp only [binU, reduceCtorEq] at hr
  case add => exact ⟨_, hr, goI (k.wrap ((a.toNat : Int) + (b.toNat : Int))) _ (by rw [h.wrap]; simp [BitVec.ofInt_add]) fun P w t => by simp only [binOp_add, Op.intArith, Sem.run_pure]⟩
  case sub => exact ⟨_, hr, goI (k.wrap ((a.toNat : Int) - (b.toNat : Int))) _ (by rw [h.wrap, ofInt_sub']) fun P w t => by simp only [binOp_sub, Op.intArith, Sem.run_pure]⟩
  case mul => exact ⟨_, hr, goI (k.wrap ((a.toNat : Int) * (b.toNat : Int))) _ (by rw [h.wrap]; simp [BitVec.ofInt_mul]) fun P w t => by simp only [binOp_mul, Op.intArith, Sem.run_pure]⟩
  case quo =>
    split at hr
    · cases hr
    · rename_i hb0
      have hb1 : ¬ (b.toNat : Int) = 0 := fun e => hb0 (BitVec.eq_of_toNat_eq (by simp; omega))
      refine ⟨_, hr, goI (k.wrap ((a.toNat : Int).tdiv (b.toNat : Int))) _ ?_ fun P w t => by simp only [binOp_quo, Op.intDiv, hb1, if_false, Sem.run_pure]⟩
      have : (a.toNat : Int).tdiv (b.toNat : Int) = ((a / b).toNat : Int) := by simp [Int.tdiv_eq_ediv_of_nonneg]
      rw [h.wrap, this, ofInt_toNat]
  case rem =>
    split at hr
    · cases hr
    · rename_i hb0
      have hb1 : ¬ (b.toNat : Int) = 0 := fun e => hb0 (BitVec.eq_of_toNat_eq (by simp; omega))
      refine ⟨_, hr, goI ((a.toNat : Int).tmod (b.toNat : Int)) _ ?_ fun P w t => by simp only [binOp_rem, Op.intDiv, hb1, if_false, Sem.run_pure]⟩
      simp [Int.tmod_eq_emod_of_nonneg]
  case and => exact ⟨_, hr, goI (k.wrap ((BitVec.ofInt k.bits (a.toNat : Int) &&& BitVec.ofInt k.bits (b.toNat : Int)).toNat : Int)) _ (bitsOp (· &&& ·) (· &&& ·) (fun e x y => by simp)) fun P w t => by simp only [binOp_and, Op.intBits, Sem.run_pure]⟩
  case or => exact ⟨_, hr, goI (k.wrap ((BitVec.ofInt k.bits (a.toNat : Int) ||| BitVec.ofInt k.bits (b.toNat : Int)).toNat : Int)) _ (bitsOp (· ||| ·) (· ||| ·) (fun e x y => by simp)) fun P w t => by simp only [binOp_or, Op.intBits, Sem.run_pure]⟩
  case xor => exact ⟨_, hr, goI (k.wrap ((BitVec.ofInt k.bits (a.toNat : Int) ^^^ BitVec.ofInt k.bits (b.toNat : Int)).toNat : Int)) _ (bitsOp (· ^^^ ·) (· ^^^ ·) (fun e x y => by simp)) fun P w t => by simp only [binOp_xor, Op.intBits, Sem.run_pure]⟩
  case andNot => exact ⟨_, hr, goI (k.wrap ((BitVec.ofInt k.bits (a.toNat : Int) &&& ~~~BitVec.ofInt k.bits (b.toNat : Int)).toNat : Int)) _ (bitsOp (fun x y => x &&& ~~~y) (fun x y => x &&& ~~~y) (fun e x y => by subst e; simp)) fun P w t => by simp only [binOp_andNot, Op.intBits, Sem.run_pure]⟩
  case eql => exact ⟨_, hr, goB ((a.toNat : Int) == (b.toNat : Int)) _ (bv_beq a b).symm fun P w t => by simp only [binOp_eql, Sem.run_pure]⟩
  case neq => exact ⟨_, hr, goB ((a.toNat : Int) != (b.toNat : Int)) _ (by rw [bv_beq]; rfl) fun P w t => by simp only [binOp_neq, Sem.run_pure]⟩
  case lss => exact ⟨_, hr, goB (decide ((a.toNat : Int) < (b.toNat : Int))) _ (by simp only [BitVec.lt_def, Int.ofNat_lt]) fun P w t => by simp only [binOp_lss, Sem.run_pure]⟩
  case leq => exact ⟨_, hr, goB (decide ((a.toNat : Int) ≤ (b.toNat : Int))) _ (by simp only [BitVec.le_def, Int.ofNat_le]) fun P w t => by simp only [binOp_leq, Sem.run_pure]⟩
  case gtr => exact ⟨_, hr, goB (decide ((a.toNat : Int) > (b.toNat : Int))) _ (by simp only [BitVec.lt_def, Int.ofNat_lt, gt_iff_lt]) fun P w t => by simp only [binOp_gtr, Sem.run_pure]⟩
  case geq => exact ⟨_, hr, goB (decide ((a.toNat : Int) ≥ (b.toNat : Int))) _ (by simp only [BitVec.le_def, Int.ofNat_le, ge_iff_le]) fun P w t => by simp only [binOp_geq, Sem.run_pure]⟩

theorem binI_ok {k : IntKind} {op : BinOp} {a b : Int} {K : SV → Option α} {r : α} (hr : binI k op a b K = some r) :
    ∃ s, K s = some r ∧ BinGo op (.i k a) (.i k b) s := by
  have go : ∀ (s : SV), (∀ (P : Program) (L : List (Option Loc)) (w : World) (t : TypeId), ∃ v, (binOp op t (.int k a) (.int k b)).run P w = .ok v w ∧ rep L s v) → BinGo op (.i k a) (.i k b) s :=
    fun s hs => BinGo.int (fun L v hv => by simpa only [rep] using hv) (fun L v hv => by simpa only [rep] using hv) hs
  have goI : ∀ (n : Int), (∀ (P : Program) (w : World) (t : TypeId), (binOp op t (.int k a) (.int k b)).run P w = .ok (.int k n) w) → BinGo op (.i k a) (.i k b) (.i k n) :=
    fun n hrun => go _ fun P L w t => ⟨_, hrun P w t, by simp only [rep]⟩
  have goB : ∀ (n : Bool), (∀ (P : Program) (w : World) (t : TypeId), (binOp op t (.int k a) (.int k b)).run P w = .ok (.bool n) w) → BinGo op (.i k a) (.i k b) (.bool n) :=
    fun n hrun => go _ fun P L w t => ⟨_, hrun P w t, by simp only [rep]⟩
  cases op <;> simp only [binI, reduceCtorEq] at hr
  case add => exact ⟨_, hr, goI (k.wrap (a + b)) fun P w t => by simp only [binOp_add, Op.intArith, Sem.run_pure]⟩
  case sub => exact ⟨_, hr, goI (k.wrap (a - b)) fun P w t => by simp only [binOp_sub, Op.intArith, Sem.run_pure]⟩
  case mul => exact ⟨_, hr, goI (k.wrap (a * b)) fun P w t => by simp only [binOp_mul, Op.intArith, Sem.run_pure]⟩
  case quo =>
    split at hr
    · cases hr
    · rename_i hb0
      exact ⟨_, hr, goI (k.wrap (a.tdiv b)) fun P w t => by simp only [binOp_quo, Op.intDiv, hb0, if_false, Sem.run_pure]⟩
  case rem =>
    split at hr
    · cases hr
    · rename_i hb0
      exact ⟨_, hr, goI (a.tmod b) fun P w t => by simp only [binOp_rem, Op.intDiv, hb0, if_false, Sem.run_pure]⟩
  case and => exact ⟨_, hr, goI (k.wrap (BitVec.ofInt k.bits a &&& BitVec.ofInt k.bits b).toNat) fun P w t => by simp only [binOp_and, Op.intBits, Sem.run_pure]⟩
  case or => exact ⟨_, hr, goI (k.wrap (BitVec.ofInt k.bits a ||| BitVec.ofInt k.bits b).toNat) fun P w t => by simp only [binOp_or, Op.intBits, Sem.run_pure]⟩
  case xor => exact ⟨_, hr, goI (k.wrap (BitVec.ofInt k.bits a ^^^ BitVec.ofInt k.bits b).toNat) fun P w t => by simp only [binOp_xor, Op.intBits, Sem.run_pure]⟩
  case eql => exact ⟨_, hr, goB (a == b) fun P w t => by simp only [binOp_eql, Sem.run_pure]⟩
  case neq => exact ⟨_, hr, goB (!(a == b)) fun P w t => by simp only [binOp_neq, Sem.run_pure, bne]⟩
  case lss => exact ⟨_, hr, goB (decide (a < b)) fun P w t => by simp only [binOp_lss, Sem.run_pure]⟩
  case leq => exact ⟨_, hr, goB (decide (a ≤ b)) fun P w t => by simp only [binOp_leq, Sem.run_pure]⟩
  case gtr => exact ⟨_, hr, goB (decide (b < a)) fun P w t => by simp only [binOp_gtr, Sem.run_pure, gt_iff_lt]⟩
  case geq => exact ⟨_, hr, goB (decide (b ≤ a)) fun P w t => by simp only [binOp_geq, Sem.run_pure, ge_iff_le]⟩
end Go.Ev

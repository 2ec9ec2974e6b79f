/-
  Part of the proof; what its functions and lemmas say stands in the text.
-/
import Derived.Test.YtakonchpkchfhaaDoorEv3
set_option linter.unusedSimpArgs false
set_option linter.unusedVariables false
/-!
Shifts, floats, equality, one operand, conversions.
-/
namespace Go.Ev
open Go.RowKit
variable {α : Type}

theorem shAmt_ok {y : SV} {n : Nat} (h : shAmt y = some n) : ∀ L v, rep L y v → ∃ k, v = .int k (n : Int) := by
  intro L v hv
  cases y <;> simp only [shAmt, reduceCtorEq, Option.some.injEq] at h
  case u8 x => subst h; exact ⟨_, by simpa only [rep] using hv⟩
  case u16 x => subst h; exact ⟨_, by simpa only [rep] using hv⟩
  case u32 x => subst h; exact ⟨_, by simpa only [rep] using hv⟩
  case u64 x => subst h; exact ⟨_, by simpa only [rep] using hv⟩
  case i k m =>
    split at h
    · rename_i h0
      simp only [Option.some.injEq] at h; subst h
      exact ⟨k, by rw [Int.toNat_of_nonneg h0]; simpa only [rep] using hv⟩
    · cases h

theorem shift_run (op : BinOp) (hop : isSh op = true) (P : Program) (w : World) (t : TypeId) (k yk : IntKind) (a : Int) (n : Nat) :
    (binOp op t (.int k a) (.int yk (n : Int))).run P w = .ok (.int k (match op with | .shl => k.wrap (a * 2 ^ min n k.bits) | _ => a.fdiv (2 ^ min n k.bits))) w := by
  have hn : ¬ (n : Int) < 0 := by omega
  cases op <;> simp only [isSh, Bool.false_eq_true] at hop
  · simp only [binOp_shl, Op.shift, hn, if_false, Int.toNat_natCast, Sem.run_pure]
  · simp only [binOp_shr, Op.shift, hn, if_false, Int.toNat_natCast, Sem.run_pure]

theorem fdiv_two_pow (a : Int) (n : Nat) : a.fdiv (2 ^ n) = a / 2 ^ n := Int.fdiv_eq_ediv_of_nonneg a (by
  have h1 : (2:Int) ^ n = ((2 ^ n : Nat) : Int) := by simp
  rw [h1]; exact Int.natCast_nonneg _)

/-- A binary operator whose answer hangs on its operands' numbers alone. -/
theorem BinGo.sh {op : BinOp} {x y s : SV} {n : Nat} (hop : isSh op = true) (hy : shAmt y = some n) {k : IntKind} {a : Int} (hx : ∀ L v, rep L x v → v = .int k a)
    (hs : ∀ L, rep L s (.int k (match op with | .shl => k.wrap (a * 2 ^ min n k.bits) | _ => a.fdiv (2 ^ min n k.bits)))) : BinGo op x y s := by
  intro P L w vx vy t ox oy rx ry
  rw [hx L vx rx]
  obtain ⟨yk, rfl⟩ := shAmt_ok hy L vy ry
  refine ⟨_, w, ?_, hs L, Below.refl _ _⟩
  rw [Sem.run_bind, eqGuard_at_int, Sem.run_pure, Result.andThen_ok]
  exact shift_run op hop P w t k yk a n

theorem shU_val {w : Nat} (a : BitVec w) (n : Nat) : BitVec.ofInt w ((a.toNat : Int) * 2 ^ min n w) = a <<< n := by
  apply BitVec.eq_of_toNat_eq
  have e1 : ((a.toNat : Int) * 2 ^ min n w) = ((a.toNat * 2 ^ min n w : Nat) : Int) := by simp
  rw [e1, BitVec.toNat_ofInt, BitVec.toNat_shiftLeft, Nat.shiftLeft_eq]
  have e2 : (((a.toNat * 2 ^ min n w : Nat) : Int) % ((2 ^ w : Nat) : Int)).toNat = (a.toNat * 2 ^ min n w) % 2 ^ w := by rw [← Int.natCast_emod]; rfl
  rw [e2]
  rcases Nat.le_total n w with h | h
  · rw [Nat.min_eq_left h]
  · rw [Nat.min_eq_right h, Nat.mul_mod_left]
    obtain ⟨m, rfl⟩ := Nat.exists_eq_add_of_le h
    rw [Nat.pow_add, ← Nat.mul_assoc, Nat.mul_right_comm, Nat.mul_mod_left]

theorem shrU_val {w : Nat} (a : BitVec w) (n : Nat) : (a.toNat : Int) / 2 ^ min n w = ((a >>> n).toNat : Int) := by
  have e1 : ((2 : Int) ^ min n w) = ((2 ^ min n w : Nat) : Int) := by simp
  rw [e1, ← Int.natCast_ediv, BitVec.toNat_ushiftRight, Nat.shiftRight_eq_div_pow]
  rcases Nat.le_total n w with h | h
  · rw [Nat.min_eq_left h]
  · rw [Nat.min_eq_right h, Nat.div_eq_of_lt a.isLt, Nat.div_eq_of_lt]
    exact Nat.lt_of_lt_of_le a.isLt (Nat.pow_le_pow_right (by decide) h)

theorem shU_ok {k : IntKind} {w : Nat} {mk : BitVec w → SV} (h : UK k w mk) {op : BinOp} (hop : isSh op = true) {a : BitVec w} {y : SV} {n : Nat} (hy : shAmt y = some n) {K : SV → Option α} {r : α} (hr : shU mk op a n K = some r) :
    ∃ s, K s = some r ∧ BinGo op (mk a) y s := by
  cases op <;> simp only [isSh, Bool.false_eq_true] at hop <;> simp only [shU] at hr
  · refine ⟨_, hr, BinGo.sh rfl hy (fun L v hv => (h.rep L a v).1 hv) fun L => (h.rep L _ _).2 ?_⟩
    simp only [h.wrap, h.bits, shU_val]
  · refine ⟨_, hr, BinGo.sh rfl hy (fun L v hv => (h.rep L a v).1 hv) fun L => (h.rep L _ _).2 ?_⟩
    simp only [h.bits, fdiv_two_pow, shrU_val]

theorem shI_ok {k : IntKind} {op : BinOp} (hop : isSh op = true) {a : Int} {y : SV} {n : Nat} (hy : shAmt y = some n) {K : SV → Option α} {r : α} (hr : shI k op a n K = some r) :
    ∃ s, K s = some r ∧ BinGo op (.i k a) y s := by
  cases op <;> simp only [isSh, Bool.false_eq_true] at hop <;> simp only [shI] at hr
  · exact ⟨_, hr, BinGo.sh rfl hy (fun L v hv => by simpa only [rep] using hv) fun L => by simp only [rep]⟩
  · exact ⟨_, hr, BinGo.sh rfl hy (fun L v hv => by simpa only [rep] using hv) fun L => by simp only [rep, fdiv_two_pow]⟩

theorem shSV_ok {op : BinOp} (hop : isSh op = true) {x y : SV} {n : Nat} (hy : shAmt y = some n) {K : SV → Option α} {r : α} (hr : shSV op x n K = some r) :
    ∃ s, K s = some r ∧ BinGo op x y s := by
  cases x <;> simp only [shSV, reduceCtorEq] at hr
  · exact shI_ok hop hy hr
  · exact shU_ok uk8 hop hy hr
  · exact shU_ok uk16 hop hy hr
  · exact shU_ok uk32 hop hy hr
  · exact shU_ok uk64 hop hy hr

/-! ### Floats -/
theorem BinGo.flt {op : BinOp} {x y s : SV} {k : FloatKind} (hx : ∀ L v, rep L x v → ∃ a, v = .float k a ∧ rep L x (.float k a)) (hy : ∀ L v, rep L y v → ∃ b, v = .float k b ∧ rep L y (.float k b))
    (h : ∀ (P : Program) (L : List (Option Loc)) (w : World) (t : TypeId) (a b : Nat), rep L x (.float k a) → rep L y (.float k b) → ∃ v w', (binOp op t (.float k a) (.float k b)).run P w = .ok v w' ∧ rep L s v ∧ Below w.heap.size w w') : BinGo op x y s := by
  intro P L w vx vy t ox oy rx ry
  obtain ⟨a, rfl, ra⟩ := hx L vx rx
  obtain ⟨b, rfl, rb⟩ := hy L vy ry
  obtain ⟨v, w', h1, h2, h3⟩ := h P L w t a b ra rb
  refine ⟨v, w', ?_, h2, h3⟩
  rw [Sem.run_bind, eqGuard_at_float]
  simpa using h1

theorem arith_some (op : BinOp) (P : Program) (w : World) (t : TypeId) (k : FloatKind) (a b r : Nat) :
    (op = .add ∧ k.format.add a b = some r ∨ op = .sub ∧ k.format.sub a b = some r ∨ op = .mul ∧ k.format.mul a b = some r ∨ op = .quo ∧ k.format.div a b = some r) →
    (binOp op t (.float k a) (.float k b)).run P w = .ok (.float k r) w := by
  rintro (⟨rfl, h⟩ | ⟨rfl, h⟩ | ⟨rfl, h⟩ | ⟨rfl, h⟩) <;> simp [binOp, Op.floatArith, h]

theorem read_nan (k : FloatKind) (x : Nat) (h : k.format.infRung < x % k.format.signWeight) : (k.decode x).isNaN = true := by
  unfold FloatKind.decode Ieee.Format.read
  have hb : k.format.binade ≤ k.format.infRung := by cases k <;> decide
  simp only []
  split
  · omega
  · split
    · omega
    · split
      · omega
      · rfl
theorem cut_nan (k : FloatKind) (a b t : Nat) : (k.decode ((Question.nanBits k a b).cut t)).isNaN = true := by
  apply read_nan
  cases k
  · show 2139095040 < ((t % 2) * 2 ^ 31 + 2139095040 + 1 + t / 2 % (2 ^ 23 - 1)) % 2147483648
    have h1 : t / 2 % (2 ^ 23 - 1) < 2 ^ 23 - 1 := Nat.mod_lt _ (by decide)
    have h2 : t % 2 < 2 := Nat.mod_lt _ (by decide)
    generalize t / 2 % (2 ^ 23 - 1) = q at *
    generalize t % 2 = p at *
    omega
  · show 9218868437227405312 < ((t % 2) * 2 ^ 63 + 9218868437227405312 + 1 + t / 2 % (2 ^ 52 - 1)) % 9223372036854775808
    have h1 : t / 2 % (2 ^ 52 - 1) < 2 ^ 52 - 1 := Nat.mod_lt _ (by decide)
    have h2 : t % 2 < 2 := Nat.mod_lt _ (by decide)
    generalize t / 2 % (2 ^ 52 - 1) = q at *
    generalize t % 2 = p at *
    omega

theorem below_drew (w : World) : Below w.heap.size w { w with drawn := w.drawn + 1 } := ⟨rfl, rfl, rfl, Nat.le_refl _, fun _ _ => rfl⟩

theorem arith_none (op : BinOp) (P : Program) (w : World) (t : TypeId) (k : FloatKind) (a b : Nat)
    (h : op = .add ∧ k.format.add a b = none ∨ op = .sub ∧ k.format.sub a b = none ∨ op = .mul ∧ k.format.mul a b = none ∨ op = .quo ∧ k.format.div a b = none) :
    ∃ v w', (binOp op t (.float k a) (.float k b)).run P w = .ok v w' ∧ (∃ x, v = .float k x ∧ (k.decode x).isNaN = true) ∧ Below w.heap.size w w' := by
  have go : (binOp op t (.float k a) (.float k b)).run P w = .ok (.float k ((Question.nanBits k a b).cut (w.tape w.drawn (.nanBits k a b)))) { w with drawn := w.drawn + 1 } := by
    rcases h with (⟨rfl, h⟩ | ⟨rfl, h⟩ | ⟨rfl, h⟩ | ⟨rfl, h⟩) <;> simp [binOp, Op.floatArith, h, Question.forced] <;> rfl
  exact ⟨_, _, go, ⟨_, rfl, cut_nan k a b _⟩, below_drew w⟩

theorem sum_nan {d e : Ieee.Datum} (h : d.isNaN = true ∨ e.isNaN = true) : d.sum e = none ∧ d.product e = none ∧ ∀ n, d.quotient n e = none := by
  cases d <;> cases e <;> simp [Ieee.Datum.isNaN, Ieee.Datum.sum, Ieee.Datum.product, Ieee.Datum.quotient] at h ⊢
theorem opp_nan {d : Ieee.Datum} (h : d.isNaN = true) : d.opposite.isNaN = true := by
  cases d <;> simp [Ieee.Datum.isNaN, Ieee.Datum.opposite] at h ⊢

theorem flt_rep {k : FloatKind} {a : Nat} : ∀ L v, rep L (.f k a) v → ∃ x, v = .float k x ∧ rep L (.f k a) (.float k x) := by
  intro L v hv
  simp only [rep] at hv
  exact ⟨a, hv, by simp only [rep]⟩
theorem nan_rep {k : FloatKind} : ∀ L v, rep L (.nan k) v → ∃ x, v = .float k x ∧ rep L (.nan k) (.float k x) := by
  intro L v hv
  simp only [rep] at hv
  obtain ⟨x, rfl, h⟩ := hv
  exact ⟨x, rfl, by simp only [rep]; exact ⟨x, rfl, h⟩⟩

theorem binF_ok {k : FloatKind} {op : BinOp} {a b : Nat} {K : SV → Option α} {r : α} (hr : binF k op a b K = some r) : ∃ s, K s = some r ∧ BinGo op (.f k a) (.f k b) s := by
  have go : ∀ s, (∀ (P : Program) (L : List (Option Loc)) (w : World) (t : TypeId), ∃ v w', (binOp op t (.float k a) (.float k b)).run P w = .ok v w' ∧ rep L s v ∧ Below w.heap.size w w') → BinGo op (.f k a) (.f k b) s := by
    intro s h
    refine BinGo.flt flt_rep flt_rep fun P L w t a' b' ha hb => ?_
    simp only [rep, Value.float.injEq, true_and] at ha hb
    subst ha; subst hb
    exact h P L w t
  have goS : ∀ n, (∀ (P : Program) (w : World) (t : TypeId), (binOp op t (.float k a) (.float k b)).run P w = .ok (.float k n) w) → BinGo op (.f k a) (.f k b) (.f k n) :=
    fun n h => go _ fun P L w t => ⟨_, w, h P w t, by simp only [rep], Below.refl _ _⟩
  have goN : (op = .add ∧ k.format.add a b = none ∨ op = .sub ∧ k.format.sub a b = none ∨ op = .mul ∧ k.format.mul a b = none ∨ op = .quo ∧ k.format.div a b = none) → BinGo op (.f k a) (.f k b) (.nan k) :=
    fun h => go _ fun P L w t => by
      obtain ⟨v, w', h1, h2, h3⟩ := arith_none op P w t k a b h
      exact ⟨v, w', h1, by simpa only [rep] using h2, h3⟩
  have goB : ∀ n : Bool, (∀ (P : Program) (w : World) (t : TypeId), (binOp op t (.float k a) (.float k b)).run P w = .ok (.bool n) w) → BinGo op (.f k a) (.f k b) (.bool n) :=
    fun n h => go _ fun P L w t => ⟨_, w, h P w t, by simp only [rep], Below.refl _ _⟩
  cases op <;> simp only [binF, reduceCtorEq] at hr
  case add =>
    split at hr
    · rename_i h; exact ⟨_, hr, goS _ fun P w t => arith_some _ P w t k a b _ (.inl ⟨rfl, h⟩)⟩
    · rename_i h; exact ⟨_, hr, goN (.inl ⟨rfl, h⟩)⟩
  case sub =>
    split at hr
    · rename_i h; exact ⟨_, hr, goS _ fun P w t => arith_some _ P w t k a b _ (.inr (.inl ⟨rfl, h⟩))⟩
    · rename_i h; exact ⟨_, hr, goN (.inr (.inl ⟨rfl, h⟩))⟩
  case mul =>
    split at hr
    · rename_i h; exact ⟨_, hr, goS _ fun P w t => arith_some _ P w t k a b _ (.inr (.inr (.inl ⟨rfl, h⟩)))⟩
    · rename_i h; exact ⟨_, hr, goN (.inr (.inr (.inl ⟨rfl, h⟩)))⟩
  case quo =>
    split at hr
    · rename_i h; exact ⟨_, hr, goS _ fun P w t => arith_some _ P w t k a b _ (.inr (.inr (.inr ⟨rfl, h⟩)))⟩
    · rename_i h; exact ⟨_, hr, goN (.inr (.inr (.inr ⟨rfl, h⟩)))⟩
  case eql => exact ⟨_, hr, goB _ fun P w t => by simp only [binOp_float_cmp_eql, Sem.run_pure]⟩
  case neq => exact ⟨_, hr, goB _ fun P w t => by simp only [binOp_float_cmp_neq, Sem.run_pure, bne]⟩
  case lss => exact ⟨_, hr, goB _ fun P w t => by simp only [binOp_float_cmp_lss, Sem.run_pure]⟩
  case leq => exact ⟨_, hr, goB _ fun P w t => by simp only [binOp_float_cmp_leq, Sem.run_pure]⟩
  case gtr => exact ⟨_, hr, goB _ fun P w t => by simp only [binOp_float_cmp_gtr, Sem.run_pure]⟩
  case geq => exact ⟨_, hr, goB _ fun P w t => by simp only [binOp_float_cmp_geq, Sem.run_pure]⟩

theorem binN_ok {k : FloatKind} {op : BinOp} {x y : SV} (hx : ∀ L v, rep L x v → ∃ a, v = .float k a ∧ rep L x (.float k a)) (hy : ∀ L v, rep L y v → ∃ b, v = .float k b ∧ rep L y (.float k b))
    (hn : ∀ L a b, rep L x (.float k a) → rep L y (.float k b) → (k.format.read a).isNaN = true ∨ (k.format.read b).isNaN = true) {K : SV → Option α} {r : α} (hr : binN k op K = some r) : ∃ s, K s = some r ∧ BinGo op x y s := by
  have ord : ∀ L a b, rep L x (.float k a) → rep L y (.float k b) → k.format.order a b = none := fun L a b ha hb => (hn L a b ha hb).elim order_nan order_nan'
  have goB : ∀ n : Bool, (∀ (P : Program) (L : List (Option Loc)) (w : World) (t : TypeId) (a b : Nat), k.format.order a b = none → (binOp op t (.float k a) (.float k b)).run P w = .ok (.bool n) w) → BinGo op x y (.bool n) :=
    fun n h => BinGo.flt hx hy fun P L w t a b ha hb => ⟨_, w, h P L w t a b (ord L a b ha hb), by simp only [rep], Below.refl _ _⟩
  have goN : (∀ a b, ((k.format.read a).isNaN = true ∨ (k.format.read b).isNaN = true) → (op = .add ∧ k.format.add a b = none ∨ op = .sub ∧ k.format.sub a b = none ∨ op = .mul ∧ k.format.mul a b = none ∨ op = .quo ∧ k.format.div a b = none)) → BinGo op x y (.nan k) :=
    fun h => BinGo.flt hx hy fun P L w t a b ha hb => by
      obtain ⟨v, w', h1, h2, h3⟩ := arith_none op P w t k a b (h a b (hn L a b ha hb))
      exact ⟨v, w', h1, by simpa only [rep] using h2, h3⟩
  cases op <;> simp only [binN, reduceCtorEq] at hr
  case add => exact ⟨_, hr, goN fun a b h => .inl ⟨rfl, by simp [Ieee.Format.add, (sum_nan h).1]⟩⟩
  case sub => exact ⟨_, hr, goN fun a b h => .inr (.inl ⟨rfl, by simp [Ieee.Format.sub, (sum_nan (h.imp id opp_nan)).1]⟩)⟩
  case mul => exact ⟨_, hr, goN fun a b h => .inr (.inr (.inl ⟨rfl, by simp [Ieee.Format.mul, (sum_nan h).2.1]⟩))⟩
  case quo => exact ⟨_, hr, goN fun a b h => .inr (.inr (.inr ⟨rfl, by simp [Ieee.Format.div, (sum_nan h).2.2]⟩))⟩
  case eql => exact ⟨_, hr, goB _ fun P L w t a b h => by simp only [binOp_float_cmp_eql, Sem.run_pure, h]; rfl⟩
  case neq => exact ⟨_, hr, goB _ fun P L w t a b h => by simp only [binOp_float_cmp_neq, Sem.run_pure, h]; rfl⟩
  case lss => exact ⟨_, hr, goB _ fun P L w t a b h => by simp only [binOp_float_cmp_lss, Sem.run_pure, h]; rfl⟩
  case leq => exact ⟨_, hr, goB _ fun P L w t a b h => by simp only [binOp_float_cmp_leq, Sem.run_pure, h]; rfl⟩
  case gtr => exact ⟨_, hr, goB _ fun P L w t a b h => by simp only [binOp_float_cmp_gtr, Sem.run_pure, h]; rfl⟩
  case geq => exact ⟨_, hr, goB _ fun P L w t a b h => by simp only [binOp_float_cmp_geq, Sem.run_pure, h]; rfl⟩

theorem binSV_ok {op : BinOp} {x y : SV} {K : SV → Option α} {r : α} (hr : binSV op x y K = some r) : ∃ s, K s = some r ∧ BinGo op x y s := by
  unfold binSV at hr
  split at hr
  · rename_i hop
    split at hr
    · rename_i n hn
      exact shSV_ok hop hn hr
    · cases hr
  · split at hr
    · exact binU_ok uk8 hr
    · exact binU_ok uk16 hr
    · exact binU_ok uk32 hr
    · exact binU_ok uk64 hr
    · split at hr
      · rename_i hk; subst hk; exact binI_ok hr
      · cases hr
    · split at hr
      · rename_i hk; subst hk; exact binF_ok hr
      · cases hr
    · split at hr
      · rename_i hk; subst hk
        exact binN_ok nan_rep flt_rep (fun L a b ha _ => .inl (by simp only [rep] at ha; obtain ⟨x, e, hx⟩ := ha; cases e; exact hx)) hr
      · cases hr
    · split at hr
      · rename_i hk; subst hk
        exact binN_ok flt_rep nan_rep (fun L a b _ hb => .inr (by simp only [rep] at hb; obtain ⟨x, e, hx⟩ := hb; cases e; exact hx)) hr
      · cases hr
    · split at hr
      · rename_i hk; subst hk
        exact binN_ok nan_rep nan_rep (fun L a b ha _ => .inl (by simp only [rep] at ha; obtain ⟨x, e, hx⟩ := ha; cases e; exact hx)) hr
      · cases hr
    · cases hr
end Go.Ev

/-
  Part of the proof; what its functions and lemmas say stands in the text.
-/
import Derived.Test.YtakonchpkchfhaaDoorEv4
set_option linter.unusedSimpArgs false
set_option linter.unusedVariables false
/-!
Operations that only make a value, or fill one new row.
-/
namespace Go.Ev
open Go.RowKit
variable {α : Type}

/-! ### One operand; conversions -/
def unSV (op : UnOp) (x : SV) (K : SV → Option α) : Option α :=
  match op, x with
  | .not, .bool b => K (.bool (!b))
  | .neg, .i k n => K (.i k (k.wrap (0 - n)))
  | .neg, .u8 x => K (.u8 (-x))
  | .neg, .u16 x => K (.u16 (-x))
  | .neg, .u32 x => K (.u32 (-x))
  | .neg, .u64 x => K (.u64 (-x))
  | .xor, .u8 x => K (.u8 (~~~x))
  | .xor, .u16 x => K (.u16 (~~~x))
  | .xor, .u32 x => K (.u32 (~~~x))
  | .xor, .u64 x => K (.u64 (~~~x))
  | .neg, .f k b => K (.f k (Op.negFloat k b))
  | _, _ => none

def UnGo (op : UnOp) (x s : SV) : Prop :=
  ∀ (P : Program) (L : List (Option Loc)) (w : World) (vx : Value), rep L x vx → ∃ v, (Op.unary op vx).run P w = .ok v w ∧ rep L s v

theorem unU_neg {k : IntKind} {w : Nat} {mk : BitVec w → SV} (h : UK k w mk) (x : BitVec w) : UnGo .neg (mk x) (mk (-x)) := by
  intro P L wd vx hv
  rw [(h.rep L x vx).1 hv]
  refine ⟨.int k (k.wrap (0 - (x.toNat : Int))), by simp only [unary_neg, Op.intArith, Sem.run_pure], (h.rep _ _ _).2 ?_⟩
  have e : BitVec.ofInt w (0 - (x.toNat : Int)) = -x := by
    have := ofInt_sub' (0#w) x
    simpa using this
  rw [h.wrap, e]
theorem unU_xor {k : IntKind} {w : Nat} {mk : BitVec w → SV} (h : UK k w mk) (hm : k.max = ((BitVec.allOnes w).toNat : Int)) (x : BitVec w) : UnGo .xor (mk x) (mk (~~~x)) := by
  intro P L wd vx hv
  rw [(h.rep L x vx).1 hv]
  obtain ⟨s, hs, hg⟩ := binU_ok h (op := .xor) (a := BitVec.allOnes w) (b := x) (K := some) rfl
  simp only [Option.some.injEq] at hs; subst hs
  obtain ⟨v, w', h1, h2, h3⟩ := hg P L wd (.int k ((BitVec.allOnes w).toNat : Int)) (.int k (x.toNat : Int)) 0 (.tmp 0) (.tmp 0) ((h.rep _ _ _).2 rfl) ((h.rep _ _ _).2 rfl)
  rw [BitVec.allOnes_xor] at h2
  refine ⟨_, ?_, h2⟩
  rw [unary_xor, h.sign]
  simp only [Bool.false_eq_true, if_false, hm]
  rw [Sem.run_bind, eqGuard_at_int, Sem.run_pure, Result.andThen_ok, binOp_xor] at h1
  have hw : wd = w' := by
    simp only [Op.intBits, Sem.run_pure, Result.ok.injEq] at h1; exact h1.2
  rw [hw] at h1 ⊢; exact h1

theorem unSV_ok {op : UnOp} {x : SV} {K : SV → Option α} {r : α} (hr : unSV op x K = some r) : ∃ s, K s = some r ∧ UnGo op x s := by
  unfold unSV at hr
  split at hr
  · exact ⟨_, hr, fun P L w vx hv => by simp only [rep] at hv; subst hv; exact ⟨_, by simp only [unary_not, Sem.run_pure]; rfl, by simp only [rep]⟩⟩
  · exact ⟨_, hr, fun P L w vx hv => by simp only [rep] at hv; subst hv; exact ⟨_, by simp only [unary_neg, Op.intArith, Sem.run_pure]; rfl, by simp only [rep]⟩⟩
  · exact ⟨_, hr, unU_neg uk8 _⟩
  · exact ⟨_, hr, unU_neg uk16 _⟩
  · exact ⟨_, hr, unU_neg uk32 _⟩
  · exact ⟨_, hr, unU_neg uk64 _⟩
  · exact ⟨_, hr, unU_xor uk8 (by decide) _⟩
  · exact ⟨_, hr, unU_xor uk16 (by decide) _⟩
  · exact ⟨_, hr, unU_xor uk32 (by decide) _⟩
  · exact ⟨_, hr, unU_xor uk64 (by decide) _⟩
  · exact ⟨_, hr, fun P L w vx hv => by simp only [rep] at hv; subst hv; exact ⟨_, by simp only [Op.unary, Sem.run_pure]; rfl, by simp only [rep]⟩⟩
  · cases hr

/-- A number without a sign as one with a sign. -/
def sOfU (k : IntKind) {w : Nat} (x : BitVec w) : Int := if w < k.bits then (x.toNat : Int) else (x.setWidth k.bits).toInt

/-- A float of another kind. -/
def f2f (s : FloatKind) (b : Nat) (k : FloatKind) (K : SV → Option α) : Option α :=
  if s = k then K (.f k b) else
  match s.decode b with
  | .nan _ _ => K (.nan k)
  | .infinity g => K (.f k (k.encode (.infinity g)))
  | .number g m e => if (k.decode (k.encode (.number g m e))).isInfinity then none else K (.f k (k.encode (.number g m e)))
/-- A float as a whole number, where it is one of the kind. -/
def f2i (s : FloatKind) (b : Nat) (k : IntKind) : Option Int :=
  match (s.decode b).toInt .zero with
  | some n => if k.min ≤ n ∧ n ≤ k.max then some n else none
  | none => none

def convU {w : Nat} (x : BitVec w) (d : TypeDesc) (K : SV → Option α) : Option α :=
  match d with
  | .int .u8 => K (.u8 (x.setWidth 8))
  | .int .u16 => K (.u16 (x.setWidth 16))
  | .int .u32 => K (.u32 (x.setWidth 32))
  | .int .u64 => K (.u64 (x.setWidth 64))
  | .int .i8 => K (.i .i8 (sOfU .i8 x))
  | .int .i16 => K (.i .i16 (sOfU .i16 x))
  | .int .i32 => K (.i .i32 (sOfU .i32 x))
  | .int .i64 => K (.i .i64 (sOfU .i64 x))
  | .float k => K (.f k (k.nearest (x.toNat : Int)))
  | _ => none
def convI (n : Int) (d : TypeDesc) (K : SV → Option α) : Option α :=
  match d with
  | .int .u8 => K (.u8 (BitVec.ofInt 8 n))
  | .int .u16 => K (.u16 (BitVec.ofInt 16 n))
  | .int .u32 => K (.u32 (BitVec.ofInt 32 n))
  | .int .u64 => K (.u64 (BitVec.ofInt 64 n))
  | .int .i8 => K (.i .i8 (IntKind.i8.wrap n))
  | .int .i16 => K (.i .i16 (IntKind.i16.wrap n))
  | .int .i32 => K (.i .i32 (IntKind.i32.wrap n))
  | .int .i64 => K (.i .i64 (IntKind.i64.wrap n))
  | .float k => K (.f k (k.nearest n))
  | _ => none
def convF (s : FloatKind) (b : Nat) (d : TypeDesc) (K : SV → Option α) : Option α :=
  match d with
  | .float k => f2f s b k K
  | .int .u8 => match f2i s b .u8 with | some n => K (.u8 (BitVec.ofInt 8 n)) | none => none
  | .int .u16 => match f2i s b .u16 with | some n => K (.u16 (BitVec.ofInt 16 n)) | none => none
  | .int .u32 => match f2i s b .u32 with | some n => K (.u32 (BitVec.ofInt 32 n)) | none => none
  | .int .u64 => match f2i s b .u64 with | some n => K (.u64 (BitVec.ofInt 64 n)) | none => none
  | .int k => match f2i s b k with | some n => K (.i k n) | none => none
  | _ => none
def convN (_s : FloatKind) (d : TypeDesc) (K : SV → Option α) : Option α :=
  match d with
  | .float k => K (.nan k)
  | _ => none
def convSV (d : TypeDesc) (x : SV) (K : SV → Option α) : Option α :=
  match x with
  | .u8 x => convU x d K
  | .u16 x => convU x d K
  | .u32 x => convU x d K
  | .u64 x => convU x d K
  | .i _ n => convI n d K
  | .f s b => convF s b d K
  | .nan s => convN s d K
  | _ => none

def ConvGo (d : TypeDesc) (x s : SV) : Prop :=
  ∀ (P : Program) (L : List (Option Loc)) (w : World) (vx : Value) (src dst : TypeId) (ds : TypeDesc), P.underlying src = some ds → P.underlying dst = some d → rep L x vx →
    ∃ v w', (convert src dst vx).run P w = .ok v w' ∧ rep L s v ∧ Below w.heap.size w w'

theorem sOfU_wrap (k : IntKind) (hk : k.signed = true) {w : Nat} (x : BitVec w) : k.wrap (x.toNat : Int) = sOfU k x := by
  unfold sOfU IntKind.wrap
  rw [hk]
  have hpos : 0 < k.bits := by cases k <;> decide
  have hm : ((x.toNat : Int) % 2 ^ k.bits) = ((x.toNat % 2 ^ k.bits : Nat) : Int) := by simp
  have hhalf : (2 : Nat) ^ k.bits = 2 * 2 ^ (k.bits - 1) := by
    obtain ⟨m, hm⟩ := Nat.exists_eq_succ_of_ne_zero (Nat.pos_iff_ne_zero.1 hpos)
    rw [hm]; simp [Nat.pow_succ, Nat.mul_comm]
  have e2 : (2:Int) ^ (k.bits - 1) = ((2 ^ (k.bits - 1) : Nat) : Int) := by simp
  have e3 : (2:Int) ^ k.bits = ((2 ^ k.bits : Nat) : Int) := by simp
  simp only [Bool.true_and, decide_eq_true_eq]
  rw [hm, e2, e3]
  by_cases hw : w < k.bits
  · have hx : x.toNat < 2 ^ (k.bits - 1) := Nat.lt_of_lt_of_le x.isLt (Nat.pow_le_pow_right (by decide) (by omega))
    rw [if_pos hw, Nat.mod_eq_of_lt (by rw [hhalf]; omega), if_neg (by omega)]
  · rw [if_neg hw, BitVec.toInt_eq_toNat_cond, BitVec.toNat_setWidth]
    have := Nat.mod_lt x.toNat (Nat.two_pow_pos k.bits)
    generalize x.toNat % 2 ^ k.bits = m at *
    rw [hhalf] at this ⊢
    split <;> split <;> omega

theorem run_conv_int (P : Program) (w : World) (src dst : TypeId) (ds : TypeDesc) (k q : IntKind) (n : Int) (hs : P.underlying src = some ds) (hd : P.underlying dst = some (.int k)) :
    (convert src dst (.int q n)).run P w = .ok (.int k (k.wrap n)) w := by
  simp [convert, run_underlying hs, run_underlying hd, Conv.intToInt]
theorem run_conv_intf (P : Program) (w : World) (src dst : TypeId) (ds : TypeDesc) (k : FloatKind) (q : IntKind) (n : Int) (hs : P.underlying src = some ds) (hd : P.underlying dst = some (.float k)) :
    (convert src dst (.int q n)).run P w = .ok (.float k (k.nearest n)) w := by
  simp [convert, run_underlying hs, run_underlying hd, Conv.intToFloat]
theorem run_conv_fi (P : Program) (w : World) (src dst : TypeId) (ds : TypeDesc) (s : FloatKind) (k : IntKind) (b : Nat) (n : Int) (hs : P.underlying src = some ds) (hd : P.underlying dst = some (.int k)) (h : f2i s b k = some n) :
    (convert src dst (.float s b)).run P w = .ok (.int k n) w := by
  unfold f2i at h
  split at h
  · rename_i m hm
    split at h
    · rename_i hb
      simp only [Option.some.injEq] at h; subst h
      simp [convert, run_underlying hs, run_underlying hd, Conv.floatToInt, hm, hb]
    · cases h
  · cases h

theorem convU_ok {k : IntKind} {w : Nat} {mk : BitVec w → SV} (h : UK k w mk) {d : TypeDesc} {x : BitVec w} {K : SV → Option α} {r : α} (hr : convU x d K = some r) : ∃ s, K s = some r ∧ ConvGo d (mk x) s := by
  have goU : ∀ {k' : IntKind} {w' : Nat} {mk' : BitVec w' → SV}, UK k' w' mk' → ConvGo (.int k') (mk x) (mk' (x.setWidth w')) := by
    intro k' w' mk' h' P L wd vx src dst ds hs hd hv
    rw [(h.rep L x vx).1 hv]
    refine ⟨_, wd, run_conv_int P wd src dst ds k' k _ hs hd, (h'.rep _ _ _).2 ?_, Below.refl _ _⟩
    have e : (BitVec.ofInt w' (x.toNat : Int)).toNat = (x.setWidth w').toNat := by simp
    rw [h'.wrap, e]
  have goI : ∀ {k' : IntKind}, k'.signed = true → ConvGo (.int k') (mk x) (.i k' (sOfU k' x)) := by
    intro k' hk P L wd vx src dst ds hs hd hv
    rw [(h.rep L x vx).1 hv]
    exact ⟨_, wd, run_conv_int P wd src dst ds k' k _ hs hd, by simp only [rep, sOfU_wrap k' hk], Below.refl _ _⟩
  unfold convU at hr
  split at hr
  · exact ⟨_, hr, goU uk8⟩
  · exact ⟨_, hr, goU uk16⟩
  · exact ⟨_, hr, goU uk32⟩
  · exact ⟨_, hr, goU uk64⟩
  · exact ⟨_, hr, goI rfl⟩
  · exact ⟨_, hr, goI rfl⟩
  · exact ⟨_, hr, goI rfl⟩
  · exact ⟨_, hr, goI rfl⟩
  · refine ⟨_, hr, fun P L wd vx src dst ds hs hd hv => ?_⟩
    rw [(h.rep L x vx).1 hv]
    exact ⟨_, wd, run_conv_intf P wd src dst ds _ k _ hs hd, by simp only [rep], Below.refl _ _⟩
  · cases hr

theorem convI_ok {k : IntKind} {d : TypeDesc} {n : Int} {K : SV → Option α} {r : α} (hr : convI n d K = some r) : ∃ s, K s = some r ∧ ConvGo d (.i k n) s := by
  have goU : ∀ {k' : IntKind} {w' : Nat} {mk' : BitVec w' → SV}, UK k' w' mk' → ConvGo (.int k') (.i k n) (mk' (BitVec.ofInt w' n)) := by
    intro k' w' mk' h' P L wd vx src dst ds hs hd hv
    simp only [rep] at hv; subst hv
    exact ⟨_, wd, run_conv_int P wd src dst ds k' k _ hs hd, (h'.rep _ _ _).2 (by rw [h'.wrap]), Below.refl _ _⟩
  have goI : ∀ {k' : IntKind}, ConvGo (.int k') (.i k n) (.i k' (k'.wrap n)) := by
    intro k' P L wd vx src dst ds hs hd hv
    simp only [rep] at hv; subst hv
    exact ⟨_, wd, run_conv_int P wd src dst ds k' k _ hs hd, by simp only [rep], Below.refl _ _⟩
  unfold convI at hr
  split at hr
  · exact ⟨_, hr, goU uk8⟩
  · exact ⟨_, hr, goU uk16⟩
  · exact ⟨_, hr, goU uk32⟩
  · exact ⟨_, hr, goU uk64⟩
  · exact ⟨_, hr, goI⟩
  · exact ⟨_, hr, goI⟩
  · exact ⟨_, hr, goI⟩
  · exact ⟨_, hr, goI⟩
  · refine ⟨_, hr, fun P L wd vx src dst ds hs hd hv => ?_⟩
    simp only [rep] at hv; subst hv
    exact ⟨_, wd, run_conv_intf P wd src dst ds _ k _ hs hd, by simp only [rep], Below.refl _ _⟩
  · cases hr

theorem cut_nan_conv (k : FloatKind) (b t : Nat) : (k.decode ((Question.nanConv k b).cut t)).isNaN = true := by
  have := cut_nan k b b t
  cases k <;> exact this
theorem conv_ff_nan (P : Program) (w : World) (src dst : TypeId) (ds : TypeDesc) (s k : FloatKind) (b : Nat) (hs : P.underlying src = some ds) (hd : P.underlying dst = some (.float k)) (hn : (s.decode b).isNaN = true) :
    ∃ x w', (convert src dst (.float s b)).run P w = .ok (.float k x) w' ∧ (k.decode x).isNaN = true ∧ Below w.heap.size w w' := by
  by_cases hsk : s = k
  · subst hsk
    exact ⟨b, w, by simp [convert, run_underlying hs, run_underlying hd, Conv.floatToFloat], hn, Below.refl _ _⟩
  · cases hb : s.decode b with
    | nan g t =>
      refine ⟨(Question.nanConv k b).cut (w.tape w.drawn (.nanConv k b)), { w with drawn := w.drawn + 1 }, ?_, cut_nan_conv k b _, below_drew w⟩
      simp [convert, run_underlying hs, run_underlying hd, Conv.floatToFloat, hsk, hb, Question.forced]
    | number => rw [hb] at hn; cases hn
    | infinity => rw [hb] at hn; cases hn

theorem convF_ok {s : FloatKind} {d : TypeDesc} {b : Nat} {K : SV → Option α} {r : α} (hr : convF s b d K = some r) : ∃ t, K t = some r ∧ ConvGo d (.f s b) t := by
  have goU : ∀ {k' : IntKind} {w' : Nat} {mk' : BitVec w' → SV} {n : Int}, UK k' w' mk' → f2i s b k' = some n → (BitVec.ofInt w' n).toNat = n → ConvGo (.int k') (.f s b) (mk' (BitVec.ofInt w' n)) := by
    intro k' w' mk' n h' hn he P L wd vx src dst ds hs hd hv
    simp only [rep] at hv; subst hv
    exact ⟨_, wd, run_conv_fi P wd src dst ds s k' b n hs hd hn, (h'.rep _ _ _).2 (by rw [he]), Below.refl _ _⟩
  have goI : ∀ {k' : IntKind} {n : Int}, f2i s b k' = some n → ConvGo (.int k') (.f s b) (.i k' n) := by
    intro k' n hn P L wd vx src dst ds hs hd hv
    simp only [rep] at hv; subst hv
    exact ⟨_, wd, run_conv_fi P wd src dst ds s k' b n hs hd hn, by simp only [rep], Below.refl _ _⟩
  have rng : ∀ {k' : IntKind} {n : Int}, f2i s b k' = some n → k'.min ≤ n ∧ n ≤ k'.max := by
    intro k' n h
    unfold f2i at h
    split at h
    · split at h
      · rename_i hb; simp only [Option.some.injEq] at h; subst h; exact hb
      · cases h
    · cases h
  unfold convF at hr
  split at hr
  · rename_i k
    unfold f2f at hr
    split at hr
    · rename_i hsk
      subst hsk
      refine ⟨_, hr, fun P L wd vx src dst ds hs hd hv => ?_⟩
      simp only [rep] at hv; subst hv
      exact ⟨_, wd, by simp [convert, run_underlying hs, run_underlying hd, Conv.floatToFloat]; rfl, by simp only [rep], Below.refl _ _⟩
    · rename_i hsk
      split at hr
      · rename_i g t hb
        refine ⟨_, hr, fun P L wd vx src dst ds hs hd hv => ?_⟩
        simp only [rep] at hv; subst hv
        obtain ⟨x, w', h1, h2, h3⟩ := conv_ff_nan P wd src dst ds s k b hs hd (by rw [hb]; rfl)
        exact ⟨_, w', h1, by simp only [rep]; exact ⟨x, rfl, h2⟩, h3⟩
      · rename_i g hb
        refine ⟨_, hr, fun P L wd vx src dst ds hs hd hv => ?_⟩
        simp only [rep] at hv; subst hv
        exact ⟨_, wd, by simp [convert, run_underlying hs, run_underlying hd, Conv.floatToFloat, hsk, hb]; rfl, by simp only [rep], Below.refl _ _⟩
      · rename_i g m e hb
        split at hr
        · cases hr
        · rename_i hi
          refine ⟨_, hr, fun P L wd vx src dst ds hs hd hv => ?_⟩
          simp only [rep] at hv; subst hv
          exact ⟨_, wd, by simp [convert, run_underlying hs, run_underlying hd, Conv.floatToFloat, hsk, hb, hi]; rfl, by simp only [rep], Below.refl _ _⟩
  · split at hr
    · rename_i n hn
      refine ⟨_, hr, goU uk8 hn ?_⟩
      have := rng hn; simp [IntKind.min, IntKind.max, IntKind.bits, IntKind.signed] at this; rw [BitVec.toNat_ofInt]; omega
    · cases hr
  · split at hr
    · rename_i n hn
      refine ⟨_, hr, goU uk16 hn ?_⟩
      have := rng hn; simp [IntKind.min, IntKind.max, IntKind.bits, IntKind.signed] at this; rw [BitVec.toNat_ofInt]; omega
    · cases hr
  · split at hr
    · rename_i n hn
      refine ⟨_, hr, goU uk32 hn ?_⟩
      have := rng hn; simp [IntKind.min, IntKind.max, IntKind.bits, IntKind.signed] at this; rw [BitVec.toNat_ofInt]; omega
    · cases hr
  · split at hr
    · rename_i n hn
      refine ⟨_, hr, goU uk64 hn ?_⟩
      have := rng hn; simp [IntKind.min, IntKind.max, IntKind.bits, IntKind.signed] at this; rw [BitVec.toNat_ofInt]; omega
    · cases hr
  · split at hr
    · rename_i n hn; exact ⟨_, hr, goI hn⟩
    · cases hr
  · cases hr

theorem convSV_ok {d : TypeDesc} {x : SV} {K : SV → Option α} {r : α} (hr : convSV d x K = some r) : ∃ s, K s = some r ∧ ConvGo d x s := by
  unfold convSV at hr
  split at hr
  · exact convU_ok uk8 hr
  · exact convU_ok uk16 hr
  · exact convU_ok uk32 hr
  · exact convU_ok uk64 hr
  · exact convI_ok hr
  · exact convF_ok hr
  · unfold convN at hr
    split at hr
    · refine ⟨_, hr, fun P L wd vx src dst ds hs hd hv => ?_⟩
      simp only [rep] at hv
      obtain ⟨b, rfl, hb⟩ := hv
      obtain ⟨x, w', h1, h2, h3⟩ := conv_ff_nan P wd src dst ds _ _ b hs hd hb
      exact ⟨_, w', h1, by simp only [rep]; exact ⟨x, rfl, h2⟩, h3⟩
    · cases hr
  · cases hr
end Go.Ev

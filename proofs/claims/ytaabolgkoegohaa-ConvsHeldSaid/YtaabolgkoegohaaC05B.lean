/-
  Part of the proof; what its functions and lemmas say stands in the text.
-/
import Derived.Test.YtaabolgkoegohaaC05A
import Derived.Test.YtaabolgkoegohaaFlA
import Derived.Test.YtaabolgkoegohaaWhA
set_option linter.unusedSimpArgs false
set_option linter.unusedVariables false
/-!
Chapter 05: the document's rounding.
-/
namespace Go.L05
open Go.Ev Go.Proofs Go.RowKit Go.Wh Go.Fl

/-! how many bits a number has -/
noncomputable def c46 : Code := findLoop (loops (Try.f46.body.getD .skip)) 2
noncomputable abbrev keep46 : List Nat := [0, 3]
noncomputable def S46 (m : BitVec 64) (n : Int) : St := ⟨mkT 11 [(0, .u64 m), (3, .i .i64 n)], []⟩
theorem nf46 (m : BitVec 64) (n : Int) (K : Ex → St → Option D) : exec Try.prog G0 (tabOf []) (fun _ => []) (fun _ => none) 50 c46 (S46 m n) (fun e st => K e (canon keep46 st)) =
  if decide (BitVec.ofInt 64 0 < m) = true then K .normal (S46 (m / BitVec.ofInt 64 2) (IntKind.i64.wrap (n + 1))) else K (.exit 0) (S46 m n) := by kernel_rfl
structure X46 where
  m : BitVec 64
  n : Nat
noncomputable abbrev Y46 (y : X46) : St := S46 y.m y.n
noncomputable def parse46 (st : St) : Option (Bool × X46) := match st with
  | ⟨t, []⟩ =>
    match t.getD 0 .any, t.getD 3 .any with
    | .u64 m, .i .i64 (.ofNat n) => some (decide (t.length = 11 ∧ n = 0), ⟨m, n⟩)
    | _, _ => none
  | _ => none
def I46 (y : X46) : Prop := y.n + szF y.m.toNat ≤ 64
def go46 (y : X46) : Bool := decide (y.m.toNat ≠ 0)
def next46 (y : X46) : X46 := ⟨y.m / 2#64, y.n + 1⟩
theorem half_nat (m : BitVec 64) : (m / 2#64).toNat = m.toNat / 2 := by rw [BitVec.toNat_udiv]; rfl
theorem szF_le (m : BitVec 64) : szF m.toNat ≤ 64 := by
  unfold szF
  split
  · omega
  · rename_i h
    have : m.toNat.log2 < 64 := (Nat.log2_lt h).2 m.isLt
    omega
theorem body46 (y : X46) (h : I46 y) (K : Ex → St → Option D) : exec Try.prog G0 (tabOf []) (fun _ => []) (fun _ => none) 50 c46 (Y46 y) (fun e st => K e (canon keep46 st)) =
    if go46 y = true then K .normal (Y46 (next46 y)) else if (fun _ : X46 => false) y = true then K .ret (Y46 y) else K (.exit 0) (Y46 y) := by
  refine (nf46 y.m y.n K).trans ?_
  have z0 : BitVec.ofInt 64 0 = 0#64 := rfl
  have z2 : BitVec.ofInt 64 2 = 2#64 := rfl
  rw [z0, z2]
  unfold go46
  unfold I46 at h
  by_cases hm : y.m.toNat = 0
  · have c : ¬ (0#64 < y.m) := by rw [BitVec.lt_def, hm]; exact Nat.lt_irrefl _
    simp only [c, hm, ne_eq, not_true_eq_false, decide_false, Bool.false_eq_true, if_false]
  · have c : 0#64 < y.m := by rw [BitVec.lt_def]; exact Nat.pos_of_ne_zero hm
    have e := szF_half hm
    have hw : IntKind.i64.wrap ((y.n : Int) + 1) = ((y.n + 1 : Nat) : Int) := by rw [wrap_in (by omega) (by omega)]; rfl
    simp only [c, hm, ne_eq, not_false_eq_true, decide_true, if_true, hw]
    rfl
theorem inv46 (y : X46) (h : I46 y) (hg : go46 y = true) : I46 (next46 y) := by
  simp only [go46, decide_eq_true_eq] at hg
  unfold I46 at h ⊢
  have e := szF_half hg
  show y.n + 1 + szF (y.m / 2#64).toNat ≤ 64
  rw [half_nat]
  omega
theorem m46 (y : X46) (h : go46 y = true) : szF y.m.toNat = szF (next46 y).m.toNat + 1 := by
  simp only [go46, decide_eq_true_eq] at h
  show _ = szF (y.m / 2#64).toNat + 1
  rw [half_nat]
  exact szF_half h
noncomputable abbrev sum46 : LoopF := sumG keep46 parse46 (fun _ => false) .ret (fun y => Y46 y) (.exit 0) (fun y => Y46 y) (fun y => iter go46 next46 (szF y.m.toNat) y)
theorem parse46_ok {st : St} {y : X46} (hx : parse46 st = some (true, y)) : (I46 y ∧ y.n = 0) ∧ ∀ (w0 : World) (L : List (Option Ev.Loc)) (a : Act) (w : World), Rel w0 L st a w → Rel w0 L (Y46 y) a w := by
  unfold parse46 at hx
  split at hx
  · rename_i t
    split at hx
    · rename_i m n h0 h3
      simp only [Option.some.injEq, Prod.mk.injEq, decide_eq_true_eq] at hx
      obtain ⟨⟨g1, rfl⟩, rfl⟩ := hx
      refine ⟨⟨?_, rfl⟩, fun w0 L' a w hrel => ?_⟩
      · show 0 + szF m.toNat ≤ 64
        have := szF_le m; omega
      · exact Rel.pick hrel g1 fun x hx => by
          simp only [List.mem_cons, List.not_mem_nil, or_false] at hx
          rcases hx with rfl | rfl
          · exact h0
          · exact h3
    · cases hx
  · cases hx
theorem sem46 : SemOK Try.prog G0 c46 sum46 := by
  refine SemOK.count (sp := tabOf []) (ann := fun _ => []) (ls := fun _ => none) TableOK.nil mixed 50 LsOK.none Y46 _ _ (by simp [Ex.out]) _ _ (by simp [Ex.out]) _ keep46 parse46 go46 next46 I46 inv46 body46 (fun y => szF y.m.toNat) m46 ?_
  intro st y hx
  obtain ⟨⟨h1, _⟩, h2⟩ := parse46_ok hx
  exact ⟨h1, h2⟩
theorem fin46 : ∀ (k : Nat) (y : X46), szF y.m.toNat = k → iter go46 next46 k y = ⟨0#64, y.n + k⟩
  | 0, y, h => by
    have : y.m.toNat = 0 := by
      rcases Nat.eq_zero_or_pos y.m.toNat with h0 | h0
      · exact h0
      · unfold szF at h; rw [if_neg (by omega)] at h; omega
    obtain ⟨m, n⟩ := y
    have e : m = 0#64 := BitVec.eq_of_toNat_eq this
    subst e
    rfl
  | k + 1, y, h => by
    have hm : y.m.toNat ≠ 0 := by
      intro h0
      unfold szF at h; rw [if_pos h0] at h; omega
    have hg : go46 y = true := decide_eq_true hm
    have e := szF_half hm
    simp only [iter, hg, if_true]
    rw [fin46 k (next46 y) (by show szF (y.m / 2#64).toNat = k; rw [half_nat]; omega)]
    show X46.mk 0#64 (y.n + 1 + k) = _
    congr 1
    omega
noncomputable def F46 : LoopF := fun st K => match parse46 (canon keep46 st) with
  | some (g, y) => if g = true then K (.exit 0) (S46 0#64 (szF y.m.toNat : Nat)) else none
  | none => none
theorem SemOK.conv {P : Program} {G : List (Nat × SV)} {c : Code} {F F' : LoopF} (h : SemOK P G c F) (h' : ∀ st K r, F' st K = some r → F st K = some r) : SemOK P G c F' := fun st K r hr => h st K r (h' st K r hr)
theorem semF46 : SemOK Try.prog G0 c46 F46 := by
  refine SemOK.conv sem46 fun st K r hF => ?_
  unfold F46 at hF
  unfold sum46 sumG
  cases hp : parse46 (canon keep46 st) with
  | none => rw [hp] at hF; cases hF
  | some gy =>
    obtain ⟨g, y⟩ := gy
    rw [hp] at hF
    simp only at hF ⊢
    split at hF
    · rename_i hg
      subst hg
      have hn := (parse46_ok hp).1.2
      rw [if_pos rfl, fin46 _ y rfl]
      simp only [hn, Nat.zero_add]
      exact hF
    · cases hF
noncomputable def ls46 : Nat → Option LoopF := lsOf [(2, F46)]
theorem loops46 : LsOK Try.prog G0 ls46 (Try.f46.body.getD .skip) := by
  refine LsOK.of (of_decide_eq_true (by kernel_rfl)) fun x hx => ?_
  simp only [List.mem_cons, List.not_mem_nil, or_false] at hx
  subst hx
  exact semF46
noncomputable def szG (Z : BitVec 64 → Int) : Ev.Spec := joined fun | [.u64 m] => some (.i .i64 (Z m)) | _ => none
theorem nf_size (m : BitVec 64) : execFnL Try.prog G0 (tabOf []) (fun _ => []) ls46 Try.f46 50 [.u64 m] some = some (.i .i64 (szF m.toNat : Nat)) := by kernel_rfl
theorem t_size : Snd 46 (szG fun m => (szF m.toNat : Int)) := by
  refine Sound.join (execFnL_sound (ann := fun _ => []) (ls := ls46) TableOK.nil mixed Try.func46 (by kernel_rfl) 50 (fun c hc => by
    have e : c = Try.f46.body.getD .skip := by rw [hc]; rfl
    rw [e]; exact loops46)) fun ds d h => ?_
  split at h
  · cases h; exact nf_size _
  · cases h

/-! rounding -/
noncomputable def shG (H : BitVec 64 → Int → BitVec 64) : Ev.Spec := guarded fun | [.u64 m, .i .i64 n] => some (decide (-4000 ≤ n ∧ n ≤ 4000), .u64 (H m n)) | _ => none
theorem nf_sh (m : BitVec 64) (n : Int) : ex [] (fun _ => []) Try.f47 [.u64 m, .i .i64 n] some = shT m n := by kernel_rfl
theorem t_sh : Snd 47 (shG shV) := by
  refine Sound.guard (execFn_sound (ann := fun _ => []) TableOK.nil mixed Try.func47 (by kernel_rfl) 50) fun ds d h => ?_
  split at h
  · rename_i m n
    simp only [Option.some.injEq, Prod.mk.injEq, decide_eq_true_eq] at h
    obtain ⟨⟨h0, h1⟩, rfl⟩ := h
    exact (nf_sh m n).trans (sh_eq m h0 h1)
  · cases h
noncomputable def formS : Ev.Spec := joined fun | [.i .i64 32] => some (.tup [.i .i64 23, .i .i64 127]) | [.i .i64 64] => some (.tup [.i .i64 52, .i .i64 1023]) | _ => none
theorem t_form : Snd 45 formS := by
  refine Sound.join (execFn_sound (ann := fun _ => []) TableOK.nil mixed Try.func45 (by kernel_rfl) 50) fun ds d h => ?_
  split at h
  · cases h; kernel_rfl
  · cases h; kernel_rfl
  · cases h
def fmtW (w : Int) : Ieee.Format := if w = 32 then Ieee.single else Ieee.double
def okC (w : Int) : Bool := w == 32 || w == 64
theorem okC_cases {w : Int} (h : okC w = true) : w = 32 ∨ w = 64 := by simpa [okC] using h
def rdV (w : Int) (s : Bool) (m : BitVec 64) (e : Int) : BitVec 64 := BitVec.ofNat 64 ((fmtW w).nearest s m.toNat e)
noncomputable def rdS : Ev.Spec := guarded fun | [.i .i64 w, .bool s, .u64 m, .i .i64 e] => some (okC w && decide (-1500 ≤ e ∧ e ≤ 1500), .u64 (rdV w s m e)) | _ => none
/-- The rounding's own shift must be in bounds. -/
def gdT (d b Z e : Int) (x : Option D) : Option D := if decide (-4000 ≤ IntKind.i64.wrap (lowI d b Z e - e) ∧ IntKind.i64.wrap (lowI d b Z e - e) ≤ 4000) = true then x else none
def rdT' (d b : Int) (sh : Nat) (s en : BitVec 64) (Z : BitVec 64 → Int) (H : BitVec 64 → Int → BitVec 64) (m : BitVec 64) (e : Int) : Option D :=
  if (m == 0#64) = true then some (.u64 s) else
  gdT d b (Z m) e (if decide (H m (IntKind.i64.wrap (lowI d b (Z m) e - e)) < 1#64 <<< sh) = true then some (.u64 (s ||| H m (IntKind.i64.wrap (lowI d b (Z m) e - e)))) else
  some (.u64 (s ||| mnU (outI d b sh (lowI d b (Z m) e) (H m (IntKind.i64.wrap (lowI d b (Z m) e - e)))) en)))
theorem nf_rd32t (Z : BitVec 64 → Int) (H : BitVec 64 → Int → BitVec 64) (m : BitVec 64) (e : Int) : ex [(45, formS), (46, szG Z), (47, shG H)] (fun _ => []) Try.f32 [.i .i64 32, .bool true, .u64 m, .i .i64 e] some =
  rdT' 23 127 23 2147483648#64 2139095040#64 Z H m e := by kernel_rfl
theorem nf_rd32f (Z : BitVec 64 → Int) (H : BitVec 64 → Int → BitVec 64) (m : BitVec 64) (e : Int) : ex [(45, formS), (46, szG Z), (47, shG H)] (fun _ => []) Try.f32 [.i .i64 32, .bool false, .u64 m, .i .i64 e] some =
  rdT' 23 127 23 0#64 2139095040#64 Z H m e := by kernel_rfl
theorem nf_rd64t (Z : BitVec 64 → Int) (H : BitVec 64 → Int → BitVec 64) (m : BitVec 64) (e : Int) : ex [(45, formS), (46, szG Z), (47, shG H)] (fun _ => []) Try.f32 [.i .i64 64, .bool true, .u64 m, .i .i64 e] some =
  rdT' 52 1023 52 9223372036854775808#64 9218868437227405312#64 Z H m e := by kernel_rfl
theorem nf_rd64f (Z : BitVec 64 → Int) (H : BitVec 64 → Int → BitVec 64) (m : BitVec 64) (e : Int) : ex [(45, formS), (46, szG Z), (47, shG H)] (fun _ => []) Try.f32 [.i .i64 64, .bool false, .u64 m, .i .i64 e] some =
  rdT' 52 1023 52 0#64 9218868437227405312#64 Z H m e := by kernel_rfl
theorem rd_low {d b : Int} (d0 : 1 ≤ d) (d1 : d ≤ 52) (b0 : 127 ≤ b) (b1 : b ≤ 1023) (m : BitVec 64) {e : Int} (he0 : -1500 ≤ e) (he1 : e ≤ 1500) {x : Option D} : gdT d b (szF m.toNat : Int) e x = x := by
  have := szF_le m
  unfold gdT
  refine if_pos (decide_eq_true ?_)
  unfold lowI mxI
  rw [wrap_in (n := e + _) (by omega) (by omega), wrap_in (n := e + _ - 1) (by omega) (by omega), wrap_in (n := 1 - b) (by omega) (by omega)]
  split
  · rw [wrap_in (n := _ - d) (by omega) (by omega), wrap_in (by omega) (by omega)]; omega
  · rw [wrap_in (n := _ - d) (by omega) (by omega), wrap_in (by omega) (by omega)]; omega
theorem t_rd : Snd 32 rdS := by
  refine Sound.guard (execFn_sound (ann := fun _ => []) (TableOK.cons t_form (TableOK.cons t_size (TableOK.cons t_sh TableOK.nil))) mixed Try.func32 (by kernel_rfl) 50) fun ds d h => ?_
  split at h
  · rename_i w s m e
    simp only [Option.some.injEq, Prod.mk.injEq, Bool.and_eq_true, decide_eq_true_eq] at h
    obtain ⟨⟨hw, h0, h1⟩, rfl⟩ := h
    have k32 := rd_eq form32 s m h0 h1
    have k64 := rd_eq form64 s m h0 h1
    unfold rdT at k32 k64
    rcases okC_cases hw with rfl | rfl <;> cases s
    · refine (nf_rd32f _ _ m e).trans ?_
      unfold rdT'
      rw [rd_low (by decide) (by decide) (by decide) (by decide) m h0 h1]
      exact k32
    · refine (nf_rd32t _ _ m e).trans ?_
      unfold rdT'
      rw [rd_low (by decide) (by decide) (by decide) (by decide) m h0 h1]
      exact k32
    · refine (nf_rd64f _ _ m e).trans ?_
      unfold rdT'
      rw [rd_low (by decide) (by decide) (by decide) (by decide) m h0 h1]
      exact k64
    · refine (nf_rd64t _ _ m e).trans ?_
      unfold rdT'
      rw [rd_low (by decide) (by decide) (by decide) (by decide) m h0 h1]
      exact k64
  · cases h
end Go.L05
/-!
Chapter 05: whole numbers as floats.
-/
namespace Go.L05
open Go.Ev Go.Proofs Go.RowKit Go.Wh Go.Fl

theorem t_Most : Snd 41 (joined fun | [.i .i64 t] => some (.u64 (maskF t)) | _ => none) := by
  refine Sound.join (execFn_sound (ann := fun _ => []) TableOK.nil mixed Try.func41 (by kernel_rfl) 50) fun ds d h => ?_
  split at h
  · cases h; kernel_rfl
  · cases h
noncomputable def mostG (M : Int → BitVec 64) : Ev.Spec := joined fun | [.i .i64 t] => some (.u64 (M t)) | _ => none
theorem m_Most : Snd 41 (mostG maskF) := t_Most
noncomputable def fitG (F : Int → BitVec 64 → Bool) : Ev.Spec := joined fun | [.i .i64 t, .u64 a] => some (.bool (F t a)) | _ => none
theorem t_Fits : Snd 26 (fitG fun t a => decide (a ≤ maskF t)) := by
  refine Sound.join (execFn_sound (ann := fun _ => []) (TableOK.cons m_Most TableOK.nil) mixed Try.func26 (by kernel_rfl) 50) fun ds d h => ?_
  split at h
  · cases h; kernel_rfl
  · cases h
noncomputable def worthS : Ev.Spec := guarded fun | [.i .i64 t, .u64 a] => some (fitF t a, .i .i64 (sgnF t a)) | _ => none
theorem nf_Worth (t : Int) (a : BitVec 64) : ex [(41, mostG maskF)] (fun _ => []) Try.f31 [.i .i64 t, .u64 a] some = if decide (a ≤ maskF t / BitVec.ofInt 64 2) = true then some (.i .i64 (sOfU .i64 a)) else some (.i .i64 (IntKind.i64.wrap (IntKind.i64.wrap (0 - sOfU .i64 (maskF t - a)) - 1))) := by kernel_rfl
theorem t_Worth : Snd 31 worthS := by
  refine Sound.guard (execFn_sound (ann := fun _ => []) (TableOK.cons m_Most TableOK.nil) mixed Try.func31 (by kernel_rfl) 50) fun ds d h => ?_
  split at h
  · rename_i t a
    simp only [Option.some.injEq, Prod.mk.injEq] at h
    obtain ⟨h, rfl⟩ := h
    have e := refWorth h
    refine (nf_Worth t a).trans ?_
    rw [← e]
    split <;> rfl
  · cases h
noncomputable def numG (N : Int → Bool → BitVec 64 → BitVec 64) : Ev.Spec := joined fun | [.i .i64 t, .bool n, .u64 a] => some (.u64 (N t n a)) | _ => none
def numV (t : Int) (n : Bool) (a : BitVec 64) : BitVec 64 := if n = true then 0#64 - a &&& maskF t else a
theorem nf_num (t : Int) (n : Bool) (a : BitVec 64) : ex [(41, mostG maskF)] (fun _ => []) Try.f33 [.i .i64 t, .bool n, .u64 a] some = if n = true then some (.u64 (0#64 - a &&& maskF t)) else some (.u64 a) := by kernel_rfl
theorem t_num : Snd 33 (numG numV) := by
  refine Sound.join (execFn_sound (ann := fun _ => []) (TableOK.cons m_Most TableOK.nil) mixed Try.func33 (by kernel_rfl) 50) fun ds d h => ?_
  split at h
  · rename_i t n a
    cases h
    refine (nf_num t n a).trans ?_
    unfold numV
    cases n <;> rfl
  · cases h

/-! may it be? -/
def fitC (w : Int) (a : BitVec 64) : Bool := w == 64 || a >>> 32 == 0#64
def mayC (f t : Int) (a : BitVec 64) : Bool := okC f && okC t && fitC f a
noncomputable def mayG (M : Int → Int → BitVec 64 → Bool) : Ev.Spec := joined fun | [.i .i64 f, .i .i64 t, .u64 a] => some (.bool (M f t a)) | _ => none
theorem nf_may (f t : Int) (a : BitVec 64) : ex [] (fun _ => []) Try.f29 [.i .i64 f, .i .i64 t, .u64 a] some =
  if (f == 32) = false then if (f == 64) = true then if (t == 32) = false then if (t == 64) = true then if (f == 64) = false then some (.bool (a >>> 32 == 0#64)) else some (.bool true) else some (.bool false) else if (f == 64) = false then some (.bool (a >>> 32 == 0#64)) else some (.bool true) else some (.bool false)
  else if (t == 32) = false then if (t == 64) = true then if (f == 64) = false then some (.bool (a >>> 32 == 0#64)) else some (.bool true) else some (.bool false) else if (f == 64) = false then some (.bool (a >>> 32 == 0#64)) else some (.bool true) := by kernel_rfl
theorem t_may : Snd 29 (mayG mayC) := by
  refine Sound.join (execFn_sound (ann := fun _ => []) TableOK.nil mixed Try.func29 (by kernel_rfl) 50) fun ds d h => ?_
  split at h
  · rename_i f t a
    cases h
    refine (nf_may f t a).trans ?_
    unfold mayC okC fitC
    generalize (a >>> 32 == 0#64) = c
    generalize (f == 32) = x1
    generalize (f == 64) = x2
    generalize (t == 32) = y1
    generalize (t == 64) = y2
    cases x1 <;> cases x2 <;> cases y1 <;> cases y2 <;> cases c <;> rfl
  · cases h
theorem nf_rmay (F : Int → BitVec 64 → Bool) (f t : Int) (a : BitVec 64) : ex [(26, fitG F)] (fun _ => []) Try.f30 [.i .i64 f, .i .i64 t, .u64 a] some =
  if (f == 32) = false then if (f == 64) = true then if (t == 32) = false then if (t == 64) = true then some (.bool (F f a)) else some (.bool false) else some (.bool (F f a)) else some (.bool false)
  else if (t == 32) = false then if (t == 64) = true then some (.bool (F f a)) else some (.bool false) else some (.bool (F f a)) := by kernel_rfl
theorem sh32 (a : BitVec 64) : (a >>> 32 == 0#64) = decide (a.toNat < 4294967296) := by
  rw [Bool.eq_iff_iff, beq_iff_eq, decide_eq_true_eq]
  constructor
  · intro h
    have := congrArg BitVec.toNat h
    rw [BitVec.toNat_ushiftRight, Nat.shiftRight_eq_div_pow] at this
    have z : (0#64).toNat = 0 := rfl
    omega
  · intro h
    apply BitVec.eq_of_toNat_eq
    rw [BitVec.toNat_ushiftRight, Nat.shiftRight_eq_div_pow]
    have z : (0#64).toNat = 0 := rfl
    omega
theorem fit_C {f : Int} (h : okC f = true) (a : BitVec 64) : decide (a ≤ maskF f) = fitC f a := by
  have hlt := a.isLt
  unfold fitC
  rw [sh32]
  rcases okC_cases h with rfl | rfl
  · rw [show ((32 : Int) == 64) = false by decide, Bool.false_or, decide_eq_decide, maskF32, BitVec.le_def]
    show a.toNat ≤ 4294967295 ↔ _
    omega
  · rw [show ((64 : Int) == 64) = true by decide, Bool.true_or, maskF64]
    refine decide_eq_true ?_
    rw [BitVec.le_def]
    show a.toNat ≤ 18446744073709551615
    omega
theorem t_rmay : Snd 30 (mayG mayC) := by
  refine Sound.join (execFn_sound (ann := fun _ => []) (TableOK.cons t_Fits TableOK.nil) mixed Try.func30 (by kernel_rfl) 50) fun ds d h => ?_
  split at h
  · rename_i f t a
    cases h
    refine (nf_rmay _ f t a).trans ?_
    unfold mayC
    cases hf : okC f
    · have : (f == 32) = false ∧ (f == 64) = false := by simpa [okC] using hf
      rw [this.1, this.2]; rfl
    · rw [fit_C hf a]
      generalize fitC f a = c
      revert hf
      unfold okC
      generalize (f == 32) = x1
      generalize (f == 64) = x2
      generalize (t == 32) = y1
      generalize (t == 64) = y2
      intro hf
      cases x1 <;> cases x2 <;> cases y1 <;> cases y2 <;> cases c <;> first | rfl | cases hf
  · cases h
theorem okC_W {w : Int} (h : okC w = true) : okW w = true := by rcases okC_cases h with rfl | rfl <;> decide
theorem mayC_fit {f t : Int} {a : BitVec 64} (h : mayC f t a = true) : okC f = true ∧ okC t = true ∧ fitF f a = true := by
  unfold mayC at h
  simp only [Bool.and_eq_true] at h
  refine ⟨h.1.1, h.1.2, ?_⟩
  unfold fitF
  rw [okC_W h.1.1, fit_C h.1.1, h.2]; rfl
/-- Not one: no more is known. -/
noncomputable def mayNoS : Ev.Spec := guarded fun | [.i .i64 f, .i .i64 t, .u64 a] => some (!mayC f t a, .bool false) | _ => none
theorem Sound.restrict' {P : Program} {G : List (Nat × SV)} {f : Nat} {s s' : Ev.Spec} (hs : Sound P G f s) (h : ∀ ds K r, s' ds K = some r → s ds K = some r) : Sound P G f s' := fun ds K r hK => hs ds K r (h ds K r hK)
theorem may_no {n : Nat} (h : Snd n (mayG mayC)) : Snd n mayNoS   := Sound.restrict' h fun ds K r hK => by
  unfold mayNoS guarded at hK
  dsimp only at hK
  split at hK
  · rename_i b d hd
    split at hd
    · cases hd
      split at hK
      · rename_i f t a hb
        have : mayC f t a = false := by simpa using hb
        simp only [mayG, joined, this]
        exact hK
      · cases hK
    · cases hd
  · cases hK

/-! whole numbers as floats -/
def intV (f : Int) (s : Bool) (a : BitVec 64) : Int := if s = true then sgnF f a else (a.toNat : Int)
theorem intF (f : Int) (a : BitVec 64) : intV f false a = (a.toNat : Int) := if_neg (by decide)
theorem intT (f : Int) (a : BitVec 64) : intV f true a = sgnF f a := if_pos rfl
def fltV (t : Int) (n : Int) : BitVec 64 := BitVec.ofNat 64 ((fmtW t).nearest (n < 0) n.natAbs 0)
noncomputable def floatS : Ev.Spec := joined fun | [.i .i64 f, .i .i64 t, .bool s, .u64 a] => some (.tup [.u64 (ifF (mayC f t a) (fltV t (intV f s a))), .i .i64 (errF (mayC f t a))]) | _ => none
theorem nearest_lt (f : Ieee.Format) (s : Bool) (m : Nat) (p : Int) : f.nearest s m p < 2 * f.signWeight := by
  unfold Ieee.Format.nearest
  split
  · exact word_lt f s (two_pos _)
  · exact word_lt f s (Nat.lt_of_le_of_lt (Nat.min_le_right _ _) (inf_lt f))
theorem near32 (n : Int) : FloatKind.f32.nearest n < 2 ^ 32 := nearest_lt Ieee.single _ _ _
theorem near64 (n : Int) : FloatKind.f64.nearest n < 2 ^ 64 := nearest_lt Ieee.double _ _ _
theorem set32 {n : Nat} (h : n < 2 ^ 32) : BitVec.setWidth 64 (BitVec.ofNat 32 n) = BitVec.ofNat 64 n := by
  apply BitVec.eq_of_toNat_eq
  rw [BitVec.toNat_setWidth, BitVec.toNat_ofNat, BitVec.toNat_ofNat, Nat.mod_eq_of_lt h]
def r32 (n : Int) : Option D := if decide (FloatKind.f32.nearest n < 2 ^ 32) = true then some (.tup [.u64 (BitVec.setWidth 64 (BitVec.ofNat 32 (FloatKind.f32.nearest n))), .i .i64 0]) else none
def r64 (n : Int) : Option D := if decide (FloatKind.f64.nearest n < 2 ^ 64) = true then some (.tup [.u64 (BitVec.ofNat 64 (FloatKind.f64.nearest n)), .i .i64 0]) else none
theorem r32_eq (n : Int) : r32 n = some (.tup [.u64 (fltV 32 n), .i .i64 0]) := by
  unfold r32
  rw [if_pos (decide_eq_true (near32 n)), set32 (near32 n)]
  rfl
theorem r64_eq (n : Int) : r64 n = some (.tup [.u64 (fltV 64 n), .i .i64 0]) := by
  unfold r64
  rw [if_pos (decide_eq_true (near64 n))]
  rfl
theorem fl_32_32t (M : Int → Int → BitVec 64 → Bool) (a : BitVec 64) : ex [(29, mayG M), (25, of64S), (28, of32S)] (fun _ => []) Try.f15 [.i .i64 32, .i .i64 32, .bool true, .u64 a] some = if (!M 32 32 a) = true then some (.tup [.u64 0#64, .i .i64 2]) else r32 (IntKind.i64.wrap (sOfU .i32 a)) := by kernel_rfl
theorem fl_32_32f (M : Int → Int → BitVec 64 → Bool) (a : BitVec 64) : ex [(29, mayG M), (25, of64S), (28, of32S)] (fun _ => []) Try.f15 [.i .i64 32, .i .i64 32, .bool false, .u64 a] some = if (!M 32 32 a) = true then some (.tup [.u64 0#64, .i .i64 2]) else r32 ((a.toNat : Int)) := by kernel_rfl
theorem fl_32_64t (M : Int → Int → BitVec 64 → Bool) (a : BitVec 64) : ex [(29, mayG M), (25, of64S), (28, of32S)] (fun _ => []) Try.f15 [.i .i64 32, .i .i64 64, .bool true, .u64 a] some = if (!M 32 64 a) = true then some (.tup [.u64 0#64, .i .i64 2]) else r64 (IntKind.i64.wrap (sOfU .i32 a)) := by kernel_rfl
theorem fl_32_64f (M : Int → Int → BitVec 64 → Bool) (a : BitVec 64) : ex [(29, mayG M), (25, of64S), (28, of32S)] (fun _ => []) Try.f15 [.i .i64 32, .i .i64 64, .bool false, .u64 a] some = if (!M 32 64 a) = true then some (.tup [.u64 0#64, .i .i64 2]) else r64 ((a.toNat : Int)) := by kernel_rfl
theorem fl_64_32t (M : Int → Int → BitVec 64 → Bool) (a : BitVec 64) : ex [(29, mayG M), (25, of64S), (28, of32S)] (fun _ => []) Try.f15 [.i .i64 64, .i .i64 32, .bool true, .u64 a] some = if (!M 64 32 a) = true then some (.tup [.u64 0#64, .i .i64 2]) else r32 (sOfU .i64 a) := by kernel_rfl
theorem fl_64_32f (M : Int → Int → BitVec 64 → Bool) (a : BitVec 64) : ex [(29, mayG M), (25, of64S), (28, of32S)] (fun _ => []) Try.f15 [.i .i64 64, .i .i64 32, .bool false, .u64 a] some = if (!M 64 32 a) = true then some (.tup [.u64 0#64, .i .i64 2]) else r32 ((a.toNat : Int)) := by kernel_rfl
theorem fl_64_64t (M : Int → Int → BitVec 64 → Bool) (a : BitVec 64) : ex [(29, mayG M), (25, of64S), (28, of32S)] (fun _ => []) Try.f15 [.i .i64 64, .i .i64 64, .bool true, .u64 a] some = if (!M 64 64 a) = true then some (.tup [.u64 0#64, .i .i64 2]) else r64 (sOfU .i64 a) := by kernel_rfl
theorem fl_64_64f (M : Int → Int → BitVec 64 → Bool) (a : BitVec 64) : ex [(29, mayG M), (25, of64S), (28, of32S)] (fun _ => []) Try.f15 [.i .i64 64, .i .i64 64, .bool false, .u64 a] some = if (!M 64 64 a) = true then some (.tup [.u64 0#64, .i .i64 2]) else r64 ((a.toNat : Int)) := by kernel_rfl
theorem fl_no (f t : Int) (s : Bool) (a : BitVec 64) : ex [(29, mayNoS)] (fun _ => []) Try.f15 [.i .i64 f, .i .i64 t, .bool s, .u64 a] some = if (!mayC f t a) = true then some (.tup [.u64 0#64, .i .i64 2]) else none := by kernel_rfl
theorem rfl_no (f t : Int) (s : Bool) (a : BitVec 64) : ex [(30, mayNoS)] (fun _ => []) Try.f16 [.i .i64 f, .i .i64 t, .bool s, .u64 a] some = if (!mayC f t a) = true then some (.tup [.u64 0#64, .i .i64 2]) else none := by kernel_rfl
theorem s64_toInt (a : BitVec 64) : sOfU .i64 a = sgnF 64 a := by
  have hlt := a.isLt
  rw [sOfU64, toInt64]
  show _ = if 2 * (a.toNat : Int) < 18446744073709551616 then (a.toNat : Int) else (a.toNat : Int) - 18446744073709551616
  split <;> split <;> omega
theorem s32_toInt {a : BitVec 64} (h : fitF 32 a = true) : IntKind.i64.wrap (sOfU .i32 a) = sgnF 32 a := by
  have h1 := (fitF_nat h).2
  rw [pw32] at h1
  have h3 : sOfU .i32 a = (a.setWidth 32).toInt := rfl
  have h4 : (a.setWidth 32).toInt = sgnF 32 a := by
    rw [BitVec.toInt_eq_toNat_cond, BitVec.toNat_setWidth]
    show _ = if 2 * (a.toNat : Int) < 4294967296 then (a.toNat : Int) else (a.toNat : Int) - 4294967296
    have : a.toNat % 2 ^ 32 = a.toNat := Nat.mod_eq_of_lt (by omega)
    rw [this]
    split <;> split <;> omega
  have hr := sgn_range h
  rw [pw32] at hr
  rw [h3, h4, wrap_in (by omega) (by omega)]
theorem t_Float : Snd 15 floatS := by
  refine Sound.of_pt fun ds d hd => ?_
  split at hd
  · rename_i f t s a
    cases hd
    cases hm : mayC f t a
    · refine (execFn_sound (P := Try.prog) (G := G0) (ann := fun _ => []) (TableOK.cons (may_no t_may) TableOK.nil) mixed Try.func15 (by kernel_rfl) 50).pt ((fl_no f t s a).trans ?_)
      rw [hm]; rfl
    · have S := execFn_sound (P := Try.prog) (G := G0) (ann := fun _ => []) (TableOK.cons t_may (TableOK.cons x_of64 (TableOK.cons x_of32 TableOK.nil))) mixed Try.func15 (by kernel_rfl) 50
      obtain ⟨hf, ht, ha⟩ := mayC_fit hm
      have e32 : ∀ n, r32 n = some (.tup [.u64 (ifF true (fltV 32 n)), .i .i64 (errF true)]) := r32_eq
      have e64 : ∀ n, r64 n = some (.tup [.u64 (ifF true (fltV 64 n)), .i .i64 (errF true)]) := r64_eq
      have c : ∀ x : Option D, (if (!true) = true then some (D.tup [.u64 0#64, .i .i64 2]) else x) = x := fun x => rfl
      rcases okC_cases hf with rfl | rfl <;> rcases okC_cases ht with rfl | rfl <;> cases s
      · exact S.pt ((fl_32_32f mayC a).trans (by rw [hm, c, intF]; exact e32 (a.toNat : Int)))
      · exact S.pt ((fl_32_32t mayC a).trans (by rw [hm, c, s32_toInt ha, intT]; exact e32 (sgnF 32 a)))
      · exact S.pt ((fl_32_64f mayC a).trans (by rw [hm, c, intF]; exact e64 (a.toNat : Int)))
      · exact S.pt ((fl_32_64t mayC a).trans (by rw [hm, c, s32_toInt ha, intT]; exact e64 (sgnF 32 a)))
      · exact S.pt ((fl_64_32f mayC a).trans (by rw [hm, c, intF]; exact e32 (a.toNat : Int)))
      · exact S.pt ((fl_64_32t mayC a).trans (by rw [hm, c, s64_toInt, intT]; exact e32 (sgnF 64 a)))
      · exact S.pt ((fl_64_64f mayC a).trans (by rw [hm, c, intF]; exact e64 (a.toNat : Int)))
      · exact S.pt ((fl_64_64t mayC a).trans (by rw [hm, c, s64_toInt, intT]; exact e64 (sgnF 64 a)))
  · cases hd
noncomputable def worG (W : Int → BitVec 64 → Int) (F : Int → BitVec 64 → Bool) : Ev.Spec := guarded fun | [.i .i64 t, .u64 a] => some (F t a, .i .i64 (W t a)) | _ => none
noncomputable def rdG (R : Int → Bool → BitVec 64 → Int → BitVec 64) (C : Int → Bool) : Ev.Spec := guarded fun | [.i .i64 w, .bool s, .u64 m, .i .i64 e] => some (C w && decide (-1500 ≤ e ∧ e ≤ 1500), .u64 (R w s m e)) | _ => none
theorem rfl_nf (M : Int → Int → BitVec 64 → Bool) (W : Int → BitVec 64 → Int) (F : Int → BitVec 64 → Bool) (N : Int → Bool → BitVec 64 → BitVec 64) (R : Int → Bool → BitVec 64 → Int → BitVec 64) (C : Int → Bool) (f t : Int) (s : Bool) (a : BitVec 64) : ex [(30, mayG M), (31, worG W F), (33, numG N), (32, rdG R C)] (fun _ => []) Try.f16 [.i .i64 f, .i .i64 t, .bool s, .u64 a] some =
  if (!M f t a) = true then some (.tup [.u64 0#64, .i .i64 2]) else
  if s = true then if F f a = true then
    if decide (W f a < 0) = true then if (C t && decide ((-1500 : Int) ≤ 0 ∧ (0 : Int) ≤ 1500)) = true then some (.tup [.u64 (R t true (N f true a) 0), .i .i64 0]) else none
    else if (C t && decide ((-1500 : Int) ≤ 0 ∧ (0 : Int) ≤ 1500)) = true then some (.tup [.u64 (R t false a 0), .i .i64 0]) else none
  else none
  else if (C t && decide ((-1500 : Int) ≤ 0 ∧ (0 : Int) ≤ 1500)) = true then some (.tup [.u64 (R t false a 0), .i .i64 0]) else none := by kernel_rfl
theorem neg_nat {f : Int} {a : BitVec 64} (ha : fitF f a = true) (hn : sgnF f a < 0) : (numV f true a).toNat = (sgnF f a).natAbs := by
  obtain ⟨hw, h1⟩ := fitF_nat ha
  have hlt := a.isLt
  have e := and_nat hw (0#64 - a)
  rw [BitVec.toNat_sub] at e
  have z : (0#64).toNat = 0 := rfl
  have hs : sgnF f a = (a.toNat : Int) - pw f ∧ pw f ≤ 2 * (a.toNat : Int) := by
    unfold sgnF at hn ⊢
    split at hn
    · omega
    · rename_i h
      rw [if_neg h]
      exact ⟨rfl, by omega⟩
  show (0#64 - a &&& maskF f).toNat = _
  rw [hs.1]
  have hp : 0 < a.toNat := by
    rcases okW_cases hw with rfl | rfl | rfl | rfl
    · have := hs.2; rw [pw8] at this; omega
    · have := hs.2; rw [pw16] at this; omega
    · have := hs.2; rw [pw32] at this; omega
    · have := hs.2; rw [pw64] at this; omega
  rcases okW_cases hw with rfl | rfl | rfl | rfl
  · rw [pw8] at *; omega
  · rw [pw16] at *; omega
  · rw [pw32] at *; omega
  · rw [pw64] at *; omega
theorem t_rFloat : Snd 16 floatS := by
  refine Sound.of_pt fun ds d hd => ?_
  split at hd
  · rename_i f t s a
    cases hd
    cases hm : mayC f t a
    · refine (execFn_sound (P := Try.prog) (G := G0) (ann := fun _ => []) (TableOK.cons (may_no t_rmay) TableOK.nil) mixed Try.func16 (by kernel_rfl) 50).pt ((rfl_no f t s a).trans ?_)
      rw [hm]; rfl
    · have S := execFn_sound (P := Try.prog) (G := G0) (ann := fun _ => []) (TableOK.cons t_rmay (TableOK.cons t_Worth (TableOK.cons t_num (TableOK.cons t_rd TableOK.nil)))) mixed Try.func16 (by kernel_rfl) 50
      obtain ⟨hf, ht, ha⟩ := mayC_fit hm
      refine S.pt ((rfl_nf mayC sgnF fitF numV rdV okC f t s a).trans ?_)
      rw [hm, ha, ht]
      have pos : ∀ n : Int, 0 ≤ n → n = (a.toNat : Int) → rdV t false a 0 = fltV t n := fun n h0 h1 => by
        unfold rdV fltV
        rw [h1]
        have : ¬ ((a.toNat : Int) < 0) := by omega
        simp [this]
      cases s
      · show some (D.tup [.u64 (rdV t false a 0), .i .i64 0]) = some (D.tup [.u64 (fltV t (a.toNat : Int)), .i .i64 0])
        rw [pos (a.toNat : Int) (by omega) rfl]
      · by_cases hn : sgnF f a < 0
        · have e : rdV t true (numV f true a) 0 = fltV t (sgnF f a) := by
            unfold rdV fltV
            rw [neg_nat ha hn]
            simp [hn]
          show (if decide (sgnF f a < 0) = true then some (D.tup [.u64 (rdV t true (numV f true a) 0), .i .i64 0]) else some (D.tup [.u64 (rdV t false a 0), .i .i64 0])) = some (D.tup [.u64 (fltV t (sgnF f a)), .i .i64 0])
          rw [if_pos (decide_eq_true hn), e]
        · have hs : sgnF f a = (a.toNat : Int) := by
            have h1 := (fitF_nat ha).2
            unfold sgnF at hn ⊢
            split
            · rfl
            · rename_i h; rw [if_neg h] at hn; omega
          show (if decide (sgnF f a < 0) = true then some (D.tup [.u64 (rdV t true (numV f true a) 0), .i .i64 0]) else some (D.tup [.u64 (rdV t false a 0), .i .i64 0])) = some (D.tup [.u64 (fltV t (sgnF f a)), .i .i64 0])
          rw [if_neg (by simpa using hn), pos _ (by omega) hs]
  · cases hd

/-! numbers that the document tells -/
noncomputable abbrev lOf : Ev.Spec := ex [(39, to32S), (40, to64S)] (fun _ => []) Try.f24
theorem s_of : Snd 24 lOf := execFn_sound (ann := fun _ => []) (TableOK.cons x_to32 (TableOK.cons x_to64 TableOK.nil)) mixed Try.func24 (by kernel_rfl) 50
noncomputable abbrev lNan : Ev.Spec := ex [] (fun _ => []) Try.f56
theorem s_isnan : Snd 56 lNan := execFn_sound (ann := fun _ => []) TableOK.nil mixed Try.func56 (by kernel_rfl) 50
noncomputable abbrev lAbs : Ev.Spec := ex [(25, of64S), (40, to64S)] (fun _ => []) Try.f60
theorem s_abs : Snd 60 lAbs := execFn_sound (ann := fun _ => []) (TableOK.cons x_of64 (TableOK.cons x_to64 TableOK.nil)) mixed Try.func60 (by kernel_rfl) 50
noncomputable abbrev lInf : Ev.Spec := ex [(60, lAbs)] (fun _ => []) Try.f55
theorem s_isinf : Snd 55 lInf := execFn_sound (ann := fun _ => []) (TableOK.cons s_abs TableOK.nil) mixed Try.func55 (by kernel_rfl) 50
noncomputable abbrev lNorm : Ev.Spec := ex [(60, lAbs)] (fun _ => []) Try.f57
theorem s_norm : Snd 57 lNorm := execFn_sound (ann := fun _ => []) (TableOK.cons s_abs TableOK.nil) mixed Try.func57 (by kernel_rfl) 50
noncomputable abbrev lLd0 : Ev.Spec := ex [(55, lInf), (56, lNan), (57, lNorm), (25, of64S), (40, to64S)] (fun _ => []) Try.f54
theorem s_ld0 : Snd 54 lLd0 := execFn_sound (ann := fun _ => []) (TableOK.cons s_isinf (TableOK.cons s_isnan (TableOK.cons s_norm (TableOK.cons x_of64 (TableOK.cons x_to64 TableOK.nil))))) mixed Try.func54 (by kernel_rfl) 50
/-- 1 times a power of two. -/
noncomputable def ldS : Ev.Spec := joined fun
  | [.f .f64 4607182418800017408, .i .i64 31] => some (.f .f64 4746794007248502784)
  | [.f .f64 4607182418800017408, .i .i64 32] => some (.f .f64 4751297606875873280)
  | [.f .f64 4607182418800017408, .i .i64 63] => some (.f .f64 4890909195324358656)
  | [.f .f64 4607182418800017408, .i .i64 64] => some (.f .f64 4895412794951729152)
  | _ => none
theorem t_ld : Snd 48 ldS := by
  refine Sound.join (execFn_sound (ann := fun _ => []) (TableOK.cons s_ld0 TableOK.nil) mixed Try.func48 (by kernel_rfl) 50) fun ds d h => ?_
  split at h
  · cases h; kernel_rfl
  · cases h; kernel_rfl
  · cases h; kernel_rfl
  · cases h; kernel_rfl
  · cases h
noncomputable abbrev lLook : Ev.Spec := ex [(48, ldS)] (fun _ => []) Try.f34
theorem s_look : Snd 34 lLook := execFn_sound (ann := fun _ => []) (TableOK.cons t_ld TableOK.nil) mixed Try.func34 (by kernel_rfl) 50
noncomputable abbrev lNum : Ev.Spec := ex [] (fun _ => []) Try.f35
theorem s_num : Snd 35 lNum := execFn_sound (ann := fun _ => []) TableOK.nil mixed Try.func35 (by kernel_rfl) 50
noncomputable abbrev lCut : Ev.Spec := ex [(29, mayG mayC), (24, lOf), (34, lLook), (35, lNum)] (fun _ => []) Try.f17
theorem s_cut : Snd 17 lCut := execFn_sound (ann := fun _ => []) (TableOK.cons t_may (TableOK.cons s_of (TableOK.cons s_look (TableOK.cons s_num TableOK.nil)))) mixed Try.func17 (by kernel_rfl) 50
noncomputable abbrev lDem : Ev.Spec := ex [(24, lOf), (28, of32S)] (fun _ => []) Try.f12
theorem s_dem : Snd 12 lDem := execFn_sound (ann := fun _ => []) (TableOK.cons s_of (TableOK.cons x_of32 TableOK.nil)) mixed Try.func12 (by kernel_rfl) 50
noncomputable def worksS : Ev.Spec := joined fun | [] => some (.bool true) | _ => none
theorem t_works : Snd 14 worksS := by
  refine Sound.join (execFn_sound (ann := fun _ => []) (TableOK.cons s_cut (TableOK.cons s_dem TableOK.nil)) mixed Try.func14 (by kernel_rfl) 50) fun ds d h => ?_
  split at h
  · cases h; kernel_rfl
  · cases h
end Go.L05

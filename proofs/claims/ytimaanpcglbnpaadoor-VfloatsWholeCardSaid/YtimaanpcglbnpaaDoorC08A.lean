/-
  Part of the proof; what its functions and lemmas say stands in the text.
-/
import Derived.Test.YtimaanpcglbnpaaDoorS08A
import Derived.Test.YtimaanpcglbnpaaDoorEvE
import Derived.Test.YtimaanpcglbnpaaDoorWhA
import Derived.Test.YtimaanpcglbnpaaDoorFlA
set_option linter.unusedSimpArgs false
set_option linter.unusedVariables false
/-!
Chapter 05: what stands for all.
-/
namespace Go.L08C
open Go.Ev Go.Proofs Go.RowKit
open Go.L08

/-! the library's floats -/
theorem x_of64 : Snd 53 of64S := of64_ok ⟨⟨Tryd.f53, Tryd.func53, by kernel_rfl, by kernel_rfl, by kernel_rfl, by kernel_rfl⟩⟩
theorem x_of32 : Snd 52 of32S := of32_ok ⟨⟨Tryd.f52, Tryd.func52, by kernel_rfl, by kernel_rfl, by kernel_rfl, by kernel_rfl⟩⟩
theorem x_to32 : Snd 96 to32S := to32_ok ⟨⟨Tryd.f96, Tryd.func96, by kernel_rfl, by kernel_rfl, by kernel_rfl, by kernel_rfl⟩⟩
theorem x_to64 : Snd 97 to64S := to64_ok ⟨⟨Tryd.f97, Tryd.func97, by kernel_rfl, by kernel_rfl, by kernel_rfl, by kernel_rfl⟩⟩
end Go.L08C
/-!
Chapter 05: the document's rounding.
-/
namespace Go.L08C
open Go.Ev Go.Proofs Go.RowKit Go.Wh Go.Fl
open Go.L08

/-! how many bits a number has -/
noncomputable def c46 : Code := findLoop (loops (Tryd.f114.body.getD .skip)) 2
noncomputable abbrev keep46 : List Nat := [0, 3]
noncomputable def S46 (m : BitVec 64) (n : Int) : St := ⟨mkT 11 [(0, .u64 m), (3, .i .i64 n)], []⟩
theorem nf46 (m : BitVec 64) (n : Int) (K : Ex → St → Option D) : exec Tryd.prog G0 (tabOf []) (fun _ => []) (fun _ => none) 50 c46 (S46 m n) (fun e st => K e (canon keep46 st)) =
  if decide (BitVec.ofInt 64 0 < m) = true then K .normal (S46 (m / BitVec.ofInt 64 2) (IntKind.i64.wrap (n + 1))) else K (.exit 0) (S46 m n) := by kernel_rfl
structure X46 where
  m : BitVec 64
  n : Nat
noncomputable abbrev Y46 (y : X46) : St := S46 y.m y.n
noncomputable def parse46 (st : St) : Option (Bool × X46) := match st with
  | ⟨t, []⟩ =>
    match t.getD 0 .any, t.getD 3 .any with
    | .u64 m, .i .i64 (.ofNat n) => some (decide (t.length = 11 ∧ n = 0), ⟨m, n⟩)
    | _, _ => none
  | _ => none
def I46 (y : X46) : Prop := y.n + szF y.m.toNat ≤ 64
def go46 (y : X46) : Bool := decide (y.m.toNat ≠ 0)
def next46 (y : X46) : X46 := ⟨y.m / 2#64, y.n + 1⟩
theorem half_nat (m : BitVec 64) : (m / 2#64).toNat = m.toNat / 2 := by rw [BitVec.toNat_udiv]; rfl
theorem szF_le (m : BitVec 64) : szF m.toNat ≤ 64 := by
  unfold szF
  split
  · omega
  · rename_i h
    have : m.toNat.log2 < 64 := (Nat.log2_lt h).2 m.isLt
    omega
theorem body46 (y : X46) (h : I46 y) (K : Ex → St → Option D) : exec Tryd.prog G0 (tabOf []) (fun _ => []) (fun _ => none) 50 c46 (Y46 y) (fun e st => K e (canon keep46 st)) =
    if go46 y = true then K .normal (Y46 (next46 y)) else if (fun _ : X46 => false) y = true then K .ret (Y46 y) else K (.exit 0) (Y46 y) := by
  refine (nf46 y.m y.n K).trans ?_
  have z0 : BitVec.ofInt 64 0 = 0#64 := rfl
  have z2 : BitVec.ofInt 64 2 = 2#64 := rfl
  rw [z0, z2]
  unfold go46
  unfold I46 at h
  by_cases hm : y.m.toNat = 0
  · have c : ¬ (0#64 < y.m) := by rw [BitVec.lt_def, hm]; exact Nat.lt_irrefl _
    simp only [c, hm, ne_eq, not_true_eq_false, decide_false, Bool.false_eq_true, if_false]
  · have c : 0#64 < y.m := by rw [BitVec.lt_def]; exact Nat.pos_of_ne_zero hm
    have e := szF_half hm
    have hw : IntKind.i64.wrap ((y.n : Int) + 1) = ((y.n + 1 : Nat) : Int) := by rw [wrap_in (by omega) (by omega)]; rfl
    simp only [c, hm, ne_eq, not_false_eq_true, decide_true, if_true, hw]
    rfl
theorem inv46 (y : X46) (h : I46 y) (hg : go46 y = true) : I46 (next46 y) := by
  simp only [go46, decide_eq_true_eq] at hg
  unfold I46 at h ⊢
  have e := szF_half hg
  show y.n + 1 + szF (y.m / 2#64).toNat ≤ 64
  rw [half_nat]
  omega
theorem m46 (y : X46) (h : go46 y = true) : szF y.m.toNat = szF (next46 y).m.toNat + 1 := by
  simp only [go46, decide_eq_true_eq] at h
  show _ = szF (y.m / 2#64).toNat + 1
  rw [half_nat]
  exact szF_half h
noncomputable abbrev sum46 : LoopF := sumG keep46 parse46 (fun _ => false) .ret (fun y => Y46 y) (.exit 0) (fun y => Y46 y) (fun y => iter go46 next46 (szF y.m.toNat) y)
theorem parse46_ok {st : St} {y : X46} (hx : parse46 st = some (true, y)) : (I46 y ∧ y.n = 0) ∧ ∀ (w0 : World) (L : List (Option Ev.Loc)) (a : Act) (w : World), Rel w0 L st a w → Rel w0 L (Y46 y) a w := by
  unfold parse46 at hx
  split at hx
  · rename_i t
    split at hx
    · rename_i m n h0 h3
      simp only [Option.some.injEq, Prod.mk.injEq, decide_eq_true_eq] at hx
      obtain ⟨⟨g1, rfl⟩, rfl⟩ := hx
      refine ⟨⟨?_, rfl⟩, fun w0 L' a w hrel => ?_⟩
      · show 0 + szF m.toNat ≤ 64
        have := szF_le m; omega
      · exact Rel.pick hrel g1 fun x hx => by
          simp only [List.mem_cons, List.not_mem_nil, or_false] at hx
          rcases hx with rfl | rfl
          · exact h0
          · exact h3
    · cases hx
  · cases hx
theorem sem46 : SemOK Tryd.prog G0 c46 sum46 := by
  refine SemOK.count (sp := tabOf []) (ann := fun _ => []) (ls := fun _ => none) TableOK.nil mixed 50 LsOK.none Y46 _ _ (by simp [Ex.out]) _ _ (by simp [Ex.out]) _ keep46 parse46 go46 next46 I46 inv46 body46 (fun y => szF y.m.toNat) m46 ?_
  intro st y hx
  obtain ⟨⟨h1, _⟩, h2⟩ := parse46_ok hx
  exact ⟨h1, h2⟩
theorem fin46 : ∀ (k : Nat) (y : X46), szF y.m.toNat = k → iter go46 next46 k y = ⟨0#64, y.n + k⟩
  | 0, y, h => by
    have : y.m.toNat = 0 := by
      rcases Nat.eq_zero_or_pos y.m.toNat with h0 | h0
      · exact h0
      · unfold szF at h; rw [if_neg (by omega)] at h; omega
    obtain ⟨m, n⟩ := y
    have e : m = 0#64 := BitVec.eq_of_toNat_eq this
    subst e
    rfl
  | k + 1, y, h => by
    have hm : y.m.toNat ≠ 0 := by
      intro h0
      unfold szF at h; rw [if_pos h0] at h; omega
    have hg : go46 y = true := decide_eq_true hm
    have e := szF_half hm
    simp only [iter, hg, if_true]
    rw [fin46 k (next46 y) (by show szF (y.m / 2#64).toNat = k; rw [half_nat]; omega)]
    show X46.mk 0#64 (y.n + 1 + k) = _
    congr 1
    omega
noncomputable def F46 : LoopF := fun st K => match parse46 (canon keep46 st) with
  | some (g, y) => if g = true then K (.exit 0) (S46 0#64 (szF y.m.toNat : Nat)) else none
  | none => none
theorem SemOK.conv {P : Program} {G : List (Nat × SV)} {c : Code} {F F' : LoopF} (h : SemOK P G c F) (h' : ∀ st K r, F' st K = some r → F st K = some r) : SemOK P G c F' := fun st K r hr => h st K r (h' st K r hr)
theorem semF46 : SemOK Tryd.prog G0 c46 F46 := by
  refine SemOK.conv sem46 fun st K r hF => ?_
  unfold F46 at hF
  unfold sum46 sumG
  cases hp : parse46 (canon keep46 st) with
  | none => rw [hp] at hF; cases hF
  | some gy =>
    obtain ⟨g, y⟩ := gy
    rw [hp] at hF
    simp only at hF ⊢
    split at hF
    · rename_i hg
      subst hg
      have hn := (parse46_ok hp).1.2
      rw [if_pos rfl, fin46 _ y rfl]
      simp only [hn, Nat.zero_add]
      exact hF
    · cases hF
noncomputable def ls46 : Nat → Option LoopF := lsOf [(2, F46)]
theorem loops46 : LsOK Tryd.prog G0 ls46 (Tryd.f114.body.getD .skip) := by
  refine LsOK.of (of_decide_eq_true (by kernel_rfl)) fun x hx => ?_
  simp only [List.mem_cons, List.not_mem_nil, or_false] at hx
  subst hx
  exact semF46
noncomputable def szG (Z : BitVec 64 → Int) : Ev.Spec := joined fun | [.u64 m] => some (.i .i64 (Z m)) | _ => none
theorem nf_size (m : BitVec 64) : execFnL Tryd.prog G0 (tabOf []) (fun _ => []) ls46 Tryd.f114 50 [.u64 m] some = some (.i .i64 (szF m.toNat : Nat)) := by kernel_rfl
theorem t_size : Snd 114 (szG fun m => (szF m.toNat : Int)) := by
  refine Sound.join (execFnL_sound (ann := fun _ => []) (ls := ls46) TableOK.nil mixed Tryd.func114 (by kernel_rfl) 50 (fun c hc => by
    have e : c = Tryd.f114.body.getD .skip := by rw [hc]; rfl
    rw [e]; exact loops46)) fun ds d h => ?_
  split at h
  · cases h; exact nf_size _
  · cases h

/-! rounding -/
noncomputable def shG (H : BitVec 64 → Int → BitVec 64) : Ev.Spec := guarded fun | [.u64 m, .i .i64 n] => some (decide (-4000 ≤ n ∧ n ≤ 4000), .u64 (H m n)) | _ => none
theorem nf_sh (m : BitVec 64) (n : Int) : ex [] (fun _ => []) Tryd.f115 [.u64 m, .i .i64 n] some = shT m n := by kernel_rfl
theorem t_sh : Snd 115 (shG shV) := by
  refine Sound.guard (execFn_sound (ann := fun _ => []) TableOK.nil mixed Tryd.func115 (by kernel_rfl) 50) fun ds d h => ?_
  split at h
  · rename_i m n
    simp only [Option.some.injEq, Prod.mk.injEq, decide_eq_true_eq] at h
    obtain ⟨⟨h0, h1⟩, rfl⟩ := h
    exact (nf_sh m n).trans (sh_eq m h0 h1)
  · cases h
noncomputable def formS : Ev.Spec := joined fun | [.i .i64 32] => some (.tup [.i .i64 23, .i .i64 127]) | [.i .i64 64] => some (.tup [.i .i64 52, .i .i64 1023]) | _ => none
theorem t_form : Snd 110 formS := by
  refine Sound.join (execFn_sound (ann := fun _ => []) TableOK.nil mixed Tryd.func110 (by kernel_rfl) 50) fun ds d h => ?_
  split at h
  · cases h; kernel_rfl
  · cases h; kernel_rfl
  · cases h
def fmtW (w : Int) : Ieee.Format := if w = 32 then Ieee.single else Ieee.double
def okC (w : Int) : Bool := w == 32 || w == 64
theorem okC_cases {w : Int} (h : okC w = true) : w = 32 ∨ w = 64 := by simpa [okC] using h
def rdV (w : Int) (s : Bool) (m : BitVec 64) (e : Int) : BitVec 64 := BitVec.ofNat 64 ((fmtW w).nearest s m.toNat e)
noncomputable def rdS : Ev.Spec := guarded fun | [.i .i64 w, .bool s, .u64 m, .i .i64 e] => some (okC w && decide (-1500 ≤ e ∧ e ≤ 1500), .u64 (rdV w s m e)) | _ => none
/-- The rounding's own shift must be in bounds. -/
def gdT (d b Z e : Int) (x : Option D) : Option D := if decide (-4000 ≤ IntKind.i64.wrap (lowI d b Z e - e) ∧ IntKind.i64.wrap (lowI d b Z e - e) ≤ 4000) = true then x else none
def rdT' (d b : Int) (sh : Nat) (s en : BitVec 64) (Z : BitVec 64 → Int) (H : BitVec 64 → Int → BitVec 64) (m : BitVec 64) (e : Int) : Option D :=
  if (m == 0#64) = true then some (.u64 s) else
  gdT d b (Z m) e (if decide (H m (IntKind.i64.wrap (lowI d b (Z m) e - e)) < 1#64 <<< sh) = true then some (.u64 (s ||| H m (IntKind.i64.wrap (lowI d b (Z m) e - e)))) else
  some (.u64 (s ||| mnU (outI d b sh (lowI d b (Z m) e) (H m (IntKind.i64.wrap (lowI d b (Z m) e - e)))) en)))
theorem nf_rd32t (Z : BitVec 64 → Int) (H : BitVec 64 → Int → BitVec 64) (m : BitVec 64) (e : Int) : ex [(110, formS), (114, szG Z), (115, shG H)] (fun _ => []) Tryd.f84 [.i .i64 32, .bool true, .u64 m, .i .i64 e] some =
  rdT' 23 127 23 2147483648#64 2139095040#64 Z H m e := by kernel_rfl
theorem nf_rd32f (Z : BitVec 64 → Int) (H : BitVec 64 → Int → BitVec 64) (m : BitVec 64) (e : Int) : ex [(110, formS), (114, szG Z), (115, shG H)] (fun _ => []) Tryd.f84 [.i .i64 32, .bool false, .u64 m, .i .i64 e] some =
  rdT' 23 127 23 0#64 2139095040#64 Z H m e := by kernel_rfl
theorem nf_rd64t (Z : BitVec 64 → Int) (H : BitVec 64 → Int → BitVec 64) (m : BitVec 64) (e : Int) : ex [(110, formS), (114, szG Z), (115, shG H)] (fun _ => []) Tryd.f84 [.i .i64 64, .bool true, .u64 m, .i .i64 e] some =
  rdT' 52 1023 52 9223372036854775808#64 9218868437227405312#64 Z H m e := by kernel_rfl
theorem nf_rd64f (Z : BitVec 64 → Int) (H : BitVec 64 → Int → BitVec 64) (m : BitVec 64) (e : Int) : ex [(110, formS), (114, szG Z), (115, shG H)] (fun _ => []) Tryd.f84 [.i .i64 64, .bool false, .u64 m, .i .i64 e] some =
  rdT' 52 1023 52 0#64 9218868437227405312#64 Z H m e := by kernel_rfl
theorem rd_low {d b : Int} (d0 : 1 ≤ d) (d1 : d ≤ 52) (b0 : 127 ≤ b) (b1 : b ≤ 1023) (m : BitVec 64) {e : Int} (he0 : -1500 ≤ e) (he1 : e ≤ 1500) {x : Option D} : gdT d b (szF m.toNat : Int) e x = x := by
  have := szF_le m
  unfold gdT
  refine if_pos (decide_eq_true ?_)
  unfold lowI mxI
  rw [wrap_in (n := e + _) (by omega) (by omega), wrap_in (n := e + _ - 1) (by omega) (by omega), wrap_in (n := 1 - b) (by omega) (by omega)]
  split
  · rw [wrap_in (n := _ - d) (by omega) (by omega), wrap_in (by omega) (by omega)]; omega
  · rw [wrap_in (n := _ - d) (by omega) (by omega), wrap_in (by omega) (by omega)]; omega
theorem t_rd : Snd 84 rdS := by
  refine Sound.guard (execFn_sound (ann := fun _ => []) (TableOK.cons t_form (TableOK.cons t_size (TableOK.cons t_sh TableOK.nil))) mixed Tryd.func84 (by kernel_rfl) 50) fun ds d h => ?_
  split at h
  · rename_i w s m e
    simp only [Option.some.injEq, Prod.mk.injEq, Bool.and_eq_true, decide_eq_true_eq] at h
    obtain ⟨⟨hw, h0, h1⟩, rfl⟩ := h
    have k32 := rd_eq form32 s m h0 h1
    have k64 := rd_eq form64 s m h0 h1
    unfold rdT at k32 k64
    rcases okC_cases hw with rfl | rfl <;> cases s
    · refine (nf_rd32f _ _ m e).trans ?_
      unfold rdT'
      rw [rd_low (by decide) (by decide) (by decide) (by decide) m h0 h1]
      exact k32
    · refine (nf_rd32t _ _ m e).trans ?_
      unfold rdT'
      rw [rd_low (by decide) (by decide) (by decide) (by decide) m h0 h1]
      exact k32
    · refine (nf_rd64f _ _ m e).trans ?_
      unfold rdT'
      rw [rd_low (by decide) (by decide) (by decide) (by decide) m h0 h1]
      exact k64
    · refine (nf_rd64t _ _ m e).trans ?_
      unfold rdT'
      rw [rd_low (by decide) (by decide) (by decide) (by decide) m h0 h1]
      exact k64
  · cases h
end Go.L08C

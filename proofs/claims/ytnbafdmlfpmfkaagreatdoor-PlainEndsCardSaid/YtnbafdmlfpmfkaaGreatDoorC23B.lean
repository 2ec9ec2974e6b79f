/-
  Part of the proof; what its functions and lemmas say stands in the text.
-/
import Derived.Test.YtnbafdmlfpmfkaaGreatDoorC23A
import Derived.Test.YtnbafdmlfpmfkaaGreatDoorFlB
import Derived.Test.YtnbafdmlfpmfkaaGreatDoorFlD
set_option linter.unusedSimpArgs false
set_option linter.unusedVariables false
namespace Go.L23C
open Go.Ev Go.Proofs Go.RowKit Go.Wh Go.Fl
open Go.L23
open Go.L23
theorem Pt.weak {P : Program} {G : List (Nat × SV)} {f : FuncId} {ds : List D} {d d' : D} (h : Pt P G f ds d) (hd : ∀ own w v, lies own w d v → lies own w d' v) : Pt P G f ds d' := fun w args hG hl => by
 rcases h w args hG hl with ⟨v, w', h1, h2, h3⟩ | ⟨h1, h2⟩
 ·exact .inl ⟨v, w', h1, h2, hd _ _ _ h3⟩
 ·exact .inr ⟨h1, Calls.mono h2 fun e w' ⟨v, he, hb, hv⟩ => ⟨v, he, hb, hd _ _ _ hv⟩⟩
def isNW (w : Int) (a : BitVec 64) : Bool := isN (fmtW w) a.toNat
def finW (w : Int) (a : BitVec 64) : Bool := fin (fmtW w) a.toNat
def wideN (w : Int) (a : BitVec 64) : Nat := if w = 32 then Ieee.double.write (Ieee.single.read a.toNat) else a.toNat
noncomputable def ofY : Ev.Spec := guarded fun | [.i .i64 w, .u64 a] => some (okC w && fitF w a && !isNW w a, .f .f64 (wideN w a)) | _ => none
noncomputable def ofN : Ev.Spec := guarded fun | [.i .i64 w, .u64 a] => some (okC w && fitF w a && isNW w a, .nan .f64) | _ => none
def f2fT (x : Ieee.Datum) : Option D := match x with
 | .nan _ _ => some (.nan .f64)
 | .infinity g => some (.f .f64 (FloatKind.f64.encode (.infinity g)))
 | .number g m e => if (FloatKind.f64.decode (FloatKind.f64.encode (.number g m e))).isInfinity then some (.xf .f64 (fun x => x < 2 ^ 32)) else some (.f .f64 (FloatKind.f64.encode (.number g m e)))
theorem nf_of32 (a : BitVec 64) : ex [(205, to32S), (206, to64S)] (fun _ => []) Tryz.f120 [.i .i64 32, .u64 a] some = f2fT (Ieee.single.read (BitVec.setWidth 32 a).toNat) := by kernel_rfl
theorem nf_of64 (a : BitVec 64) : ex [(205, to32S), (206, to64S)] (fun _ => []) Tryz.f120 [.i .i64 64, .u64 a] some = some (.f .f64 a.toNat) := by kernel_rfl
theorem low32 {a : BitVec 64} (h : fitF 32 a = true) : (BitVec.setWidth 32 a).toNat = a.toNat := by
 have h1 := (fitF_nat h).2
 rw [pw32] at h1
 rw [BitVec.toNat_setWidth, Nat.mod_eq_of_lt (by omega)]
theorem not_inf {x : Nat} (h : fin Ieee.double x = true) : (FloatKind.f64.decode x).isInfinity = false := by
 show (Ieee.double.read x).isInfinity = false
 rw [read_fin h]; rfl
theorem S_of : Sound Tryz.prog G0 120 (ex [(205, to32S), (206, to64S)] (fun _ => []) Tryz.f120) := execFn_sound (ann := fun _ => []) (TableOK.cons x_to32 (TableOK.cons x_to64 TableOK.nil)) mixed Tryz.func120 (by kernel_rfl) 50
theorem t_ofY : Snd 120 ofY := by
 refine Sound.of_ptG fun ds d hd => ?_
 split at hd
 ·rename_i w a
  simp only [Option.some.injEq, Prod.mk.injEq, Bool.and_eq_true, Bool.not_eq_true'] at hd
  obtain ⟨⟨⟨hw, hf⟩, hn⟩, rfl⟩ := hd
  rcases okC_cases hw with rfl | rfl
  ·refine S_of.pt ((nf_of32 a).trans ?_)
   rw [low32 hf]
   have hn' : isN Ieee.single a.toNat = false := hn
   cases h1 : fin Ieee.single a.toNat
   ·have e := read_infty two_s h1 hn'
    unfold wideN
    rw [if_pos rfl, e]
    rfl
   ·have e := read_fin h1
    obtain ⟨a1, _, _⟩ := longer h1
    unfold wideN
    rw [if_pos rfl]
    rw [e] at a1 ⊢
    show (if (FloatKind.f64.decode (FloatKind.f64.encode _)).isInfinity = true then _ else _) = _
    have := not_inf a1
    rw [show FloatKind.f64.encode (.number (ng Ieee.single a.toNat) (mg Ieee.single a.toNat) (pl Ieee.single a.toNat)) = Ieee.double.write (.number (ng Ieee.single a.toNat) (mg Ieee.single a.toNat) (pl Ieee.single a.toNat)) from rfl, this]
    rfl
  ·exact S_of.pt (nf_of64 a)
 ·cases hd
theorem t_ofN : Snd 120 ofN := by
 refine Sound.of_ptG fun ds d hd => ?_
 split at hd
 ·rename_i w a
  simp only [Option.some.injEq, Prod.mk.injEq, Bool.and_eq_true] at hd
  obtain ⟨⟨⟨hw, hf⟩, hn⟩, rfl⟩ := hd
  rcases okC_cases hw with rfl | rfl
  ·refine S_of.pt ((nf_of32 a).trans ?_)
   rw [low32 hf]
   obtain ⟨u, hu⟩ := read_none two_s (x := a.toNat) hn
   rw [hu]; rfl
  ·refine Pt.weak (S_of.pt (nf_of64 a)) fun own w v hv => ?_
   simp only [lies] at hv ⊢
   refine ⟨_, hv, ?_, a.isLt⟩
   show (Ieee.double.read a.toNat).isNaN = true
   rw [isN_iff two_d]
   exact hn
 ·cases hd
theorem wide_fin {w : Int} (hw : okC w = true) {a : BitVec 64} (h : finW w a = true) : fin Ieee.double (wideN w a) = true ∧ ng Ieee.double (wideN w a) = ng (fmtW w) a.toNat ∧ wo Ieee.double (wideN w a) = wo (fmtW w) a.toNat := by
 rcases okC_cases hw with rfl | rfl
 ·exact longer (x := a.toNat) h
 ·exact ⟨h, rfl, rfl⟩
theorem wide_inf {w : Int} (hw : okC w = true) {a : BitVec 64} (h : finW w a = false) (hn : isNW w a = false) : fin Ieee.double (wideN w a) = false ∧ isN Ieee.double (wideN w a) = false ∧ ng Ieee.double (wideN w a) = ng (fmtW w) a.toNat := by
 rcases okC_cases hw with rfl | rfl
 ·exact longer_inf (x := a.toNat) h hn
 ·exact ⟨h, hn, rfl⟩
def bnd (t : Int) (s n : Bool) : Nat := if s = true then (if n = true then (if t = 32 then 2147483648 else 9223372036854775808) else (if t = 32 then 2147483647 else 9223372036854775807)) else (if n = true then 0 else if t = 32 then 4294967295 else 18446744073709551615)
def okX (x : Nat) (t : Int) (s : Bool) : Bool := fin Ieee.double x && decide (wh Ieee.double x ≤ bnd t s (ng Ieee.double x))
def lookV (x : Nat) (t : Int) (s : Bool) : Int := if okX x t s = true then 0 else if ng Ieee.double x = true then 2 else 3
noncomputable def lookY : Ev.Spec := guarded fun | [.f .f64 x, .i .i64 t, .bool s] => some (okC t && !isN Ieee.double x, .i .i64 (lookV x t s)) | _ => none
noncomputable def lookN : Ev.Spec := guarded fun | [.nan .f64, .i .i64 t, .bool _] => some (okC t, .i .i64 1) | _ => none
def leO (x c : Nat) : Bool := FloatKind.f64.format.order x c == some .lt || FloatKind.f64.format.order x c == some .eq
def geO (x c : Nat) : Bool := FloatKind.f64.format.order x c == some .gt || FloatKind.f64.format.order x c == some .eq
def lookT (x : Nat) (low : Bool) (c : Nat) : Option D := if (!(FloatKind.f64.format.order x x == some .eq)) = true then some (.i .i64 1) else if low = true then some (.i .i64 2) else if geO x c = true then some (.i .i64 3) else some (.i .i64 0)
theorem nf_look32f (x : Nat) : ex [(207, ldS)] (fun _ => []) Tryz.f121 [.f .f64 x, .i .i64 32, .bool false] some = lookT x (leO x 13830554455654793216) 4751297606875873280 := by kernel_rfl
theorem nf_look32t (x : Nat) : ex [(207, ldS)] (fun _ => []) Tryz.f121 [.f .f64 x, .i .i64 32, .bool true] some = lookT x (leO x 13970166044105375744) 4746794007248502784 := by kernel_rfl
theorem nf_look64f (x : Nat) : ex [(207, ldS)] (fun _ => []) Tryz.f121 [.f .f64 x, .i .i64 64, .bool false] some = lookT x (leO x 13830554455654793216) 4895412794951729152 := by kernel_rfl
theorem nf_look64t (x : Nat) : ex [(207, ldS)] (fun _ => []) Tryz.f121 [.f .f64 x, .i .i64 64, .bool true] some = lookT x (FloatKind.f64.format.order x 14114281232179134464 == some .lt) 4890909195324358656 := by kernel_rfl
theorem nf_lookN32t : ex [(207, ldS)] (fun _ => []) Tryz.f121 [.nan .f64, .i .i64 32, .bool true] some = some (.i .i64 1) := by kernel_rfl
theorem nf_lookN32f : ex [(207, ldS)] (fun _ => []) Tryz.f121 [.nan .f64, .i .i64 32, .bool false] some = some (.i .i64 1) := by kernel_rfl
theorem nf_lookN64t : ex [(207, ldS)] (fun _ => []) Tryz.f121 [.nan .f64, .i .i64 64, .bool true] some = some (.i .i64 1) := by kernel_rfl
theorem nf_lookN64f : ex [(207, ldS)] (fun _ => []) Tryz.f121 [.nan .f64, .i .i64 64, .bool false] some = some (.i .i64 1) := by kernel_rfl
theorem cmp_le {a b : Int} : (some (compare a b) == some Ordering.lt || some (compare a b) == some Ordering.eq) = decide (a ≤ b) := by
 rcases Int.lt_trichotomy a b with h | h | h
 ·rw [Int.compare_eq_lt.2 h, decide_eq_true (by omega)]; rfl
 ·subst h; rw [Int.compare_eq_eq.2 rfl, decide_eq_true (by omega)]; rfl
 ·rw [Int.compare_eq_gt.2 h, decide_eq_false (by omega)]; rfl
theorem cmp_ge {a b : Int} : (some (compare a b) == some Ordering.gt || some (compare a b) == some Ordering.eq) = decide (b ≤ a) := by
 rcases Int.lt_trichotomy a b with h | h | h
 ·rw [Int.compare_eq_lt.2 h, decide_eq_false (by omega)]; rfl
 ·subst h; rw [Int.compare_eq_eq.2 rfl, decide_eq_true (by omega)]; rfl
 ·rw [Int.compare_eq_gt.2 h, decide_eq_true (by omega)]; rfl
theorem cmp_lt {a b : Int} : (some (compare a b) == some Ordering.lt) = decide (a < b) := by
 rcases Int.lt_trichotomy a b with h | h | h
 ·rw [Int.compare_eq_lt.2 h, decide_eq_true (by omega)]; rfl
 ·subst h; rw [Int.compare_eq_eq.2 rfl, decide_eq_false (by omega)]; rfl
 ·rw [Int.compare_eq_gt.2 h, decide_eq_false (by omega)]; rfl
theorem le_low {x c n : Nat} (hf : fin Ieee.double x = true) (hc : IsInt Ieee.double c true n) (hn : 0 < n) : leO x c = (ng Ieee.double x && decide (n ≤ wh Ieee.double x)) := by
 have hU := U_pos
 have hp : 0 < n * U := Nat.mul_pos hn hU
 unfold leO
 rw [show FloatKind.f64.format.order x c = _ from order_int hf hc, cmp_le, Bool.eq_iff_iff]
 simp only [decide_eq_true_eq, Bool.and_eq_true, wh_ge]
 unfold sg
 cases ng Ieee.double x
 ·simp only [Bool.false_eq_true, if_false, if_true, false_and, iff_false]; omega
 ·simp only [if_true, true_and]; omega
theorem lt_low {x c n : Nat} (hf : fin Ieee.double x = true) (hc : IsInt Ieee.double c true n) (hn : 9007199254740992 ≤ n) : (FloatKind.f64.format.order x c == some .lt) = (ng Ieee.double x && decide (n < wh Ieee.double x)) := by
 have hU := U_pos
 have hp : 0 < n * U := Nat.mul_pos (by omega) hU
 have h53 : 9007199254740992 * U ≤ n * U := Nat.mul_le_mul_right _ hn
 rw [show FloatKind.f64.format.order x c = _ from order_int hf hc, cmp_lt, Bool.eq_iff_iff]
 simp only [decide_eq_true_eq, Bool.and_eq_true]
 have key : n * U < wo Ieee.double x ↔ n < wh Ieee.double x := by
  constructor
  ·intro h
   have e := great_whole (x := x) (by omega)
   rw [e] at h
   exact Nat.lt_of_mul_lt_mul_right h
  ·intro h
   have : (n + 1) * U ≤ wo Ieee.double x := wh_ge.1 h
   rw [Nat.add_mul] at this
   omega
 rw [← key]
 unfold sg
 cases ng Ieee.double x
 ·simp only [Bool.false_eq_true, if_false, if_true, false_and, iff_false]; omega
 ·simp only [if_true, true_and]; omega
theorem ge_high {x c n : Nat} (hf : fin Ieee.double x = true) (hc : IsInt Ieee.double c false n) (hn : 0 < n) : geO x c = (!ng Ieee.double x && decide (n ≤ wh Ieee.double x)) := by
 have hU := U_pos
 have hp : 0 < n * U := Nat.mul_pos hn hU
 unfold geO
 rw [show FloatKind.f64.format.order x c = _ from order_int hf hc, cmp_ge, Bool.eq_iff_iff]
 simp only [decide_eq_true_eq, Bool.and_eq_true, wh_ge]
 unfold sg
 cases ng Ieee.double x
 ·simp only [Bool.false_eq_true, if_false, Bool.not_false, true_and]; omega
 ·simp only [Bool.false_eq_true, if_false, if_true, Bool.not_true, false_and, iff_false]; omega
theorem inf_le {x c n : Nat} {s : Bool} (h1 : fin Ieee.double x = false) (h2 : isN Ieee.double x = false) (hc : IsInt Ieee.double c s n) : leO x c = ng Ieee.double x ∧ geO x c = !ng Ieee.double x ∧ (FloatKind.f64.format.order x c == some .lt) = ng Ieee.double x := by
 unfold leO geO
 rw [show FloatKind.f64.format.order x c = _ from order_infty h1 h2 hc]
 cases ng Ieee.double x
 ·exact ⟨rfl, rfl, rfl⟩
 ·exact ⟨rfl, rfl, rfl⟩
theorem look_end {x c : Nat} {t : Int} {s low : Bool} (hn : isN Ieee.double x = false) (h1 : fin Ieee.double x = true → low = (ng Ieee.double x && decide (bnd t s true < wh Ieee.double x)) ∧ geO x c = (!ng Ieee.double x && decide (bnd t s false < wh Ieee.double x))) (h2 : fin Ieee.double x = false → low = ng Ieee.double x ∧ geO x c = !ng Ieee.double x) :
  lookT x low c = some (.i .i64 (lookV x t s)) := by
 unfold lookT lookV okX
 rw [show (FloatKind.f64.format.order x x == some Ordering.eq) = true by have := order_self (f := Ieee.double) two_d (x := x); rw [hn] at this; exact this]
 cases hf : fin Ieee.double x
 ·obtain ⟨e1, e2⟩ := h2 hf
  rw [e1, e2]
  cases ng Ieee.double x <;> rfl
 ·obtain ⟨e1, e2⟩ := h1 hf
  rw [e1, e2]
  cases hg : ng Ieee.double x
  ·by_cases hb : wh Ieee.double x ≤ bnd t s false
   ·have : ¬ bnd t s false < wh Ieee.double x := by omega
    simp [hb, this]
   ·have : bnd t s false < wh Ieee.double x := by omega
    simp [hb, this]
  ·by_cases hb : wh Ieee.double x ≤ bnd t s true
   ·have : ¬ bnd t s true < wh Ieee.double x := by omega
    simp [hb, this]
   ·have : bnd t s true < wh Ieee.double x := by omega
    simp [hb, this]
theorem t_lookY : Snd 121 lookY := by
 refine Sound.guard (execFn_sound (ann := fun _ => []) (TableOK.cons t_ld TableOK.nil) mixed Tryz.func121 (by kernel_rfl) 50) fun ds d h => ?_
 split at h
 ·rename_i x t s
  simp only [Option.some.injEq, Prod.mk.injEq, Bool.and_eq_true, Bool.not_eq_true'] at h
  obtain ⟨⟨ht, hn⟩, rfl⟩ := h
  rcases okC_cases ht with rfl | rfl <;> cases s
  ·refine (nf_look32f x).trans (look_end hn (fun hf => ⟨le_low hf c_m1 (by decide), ge_high hf c_32 (by decide)⟩) fun hf => ⟨(inf_le hf hn c_m1).1, (inf_le hf hn c_32).2.1⟩)
  ·refine (nf_look32t x).trans (look_end hn (fun hf => ⟨le_low hf c_m31 (by decide), ge_high hf c_31 (by decide)⟩) fun hf => ⟨(inf_le hf hn c_m31).1, (inf_le hf hn c_31).2.1⟩)
  ·refine (nf_look64f x).trans (look_end hn (fun hf => ⟨le_low hf c_m1 (by decide), ge_high hf c_64 (by decide)⟩) fun hf => ⟨(inf_le hf hn c_m1).1, (inf_le hf hn c_64).2.1⟩)
  ·refine (nf_look64t x).trans (look_end hn (fun hf => ⟨lt_low hf c_m63 (by decide), ge_high hf c_63 (by decide)⟩) fun hf => ⟨(inf_le hf hn c_m63).2.2, (inf_le hf hn c_63).2.1⟩)
 ·cases h
theorem t_lookN : Snd 121 lookN := by
 refine Sound.guard (execFn_sound (ann := fun _ => []) (TableOK.cons t_ld TableOK.nil) mixed Tryz.func121 (by kernel_rfl) 50) fun ds d h => ?_
 split at h
 ·rename_i t s
  simp only [Option.some.injEq, Prod.mk.injEq] at h
  obtain ⟨ht, rfl⟩ := h
  rcases okC_cases ht with rfl | rfl <;> cases s
  ·exact nf_lookN32f
  ·exact nf_lookN32t
  ·exact nf_lookN64f
  ·exact nf_lookN64t
 ·cases h
end Go.L23C
namespace Go.L23C
open Go.Ev Go.Proofs Go.RowKit Go.Wh Go.Fl
open Go.L23
def f2iT (x : Nat) (K : Int → Option D) : Option D := match f2i .f64 x .i64 with | some n => K n | none => none
def subT (x c : Nat) (K : Nat → Option D) : Option D := match FloatKind.f64.format.sub x c with | some r => K r | none => none
theorem nf_numt32 (x : Nat) : ex [] (fun _ => []) Tryz.f122 [.f .f64 x, .i .i64 32, .bool true] some = f2iT x (fun n => some (.u64 (BitVec.ofInt 64 n &&& maskF 32))) := by kernel_rfl
theorem nf_numf32 (x : Nat) : ex [] (fun _ => []) Tryz.f122 [.f .f64 x, .i .i64 32, .bool false] some =
 if (FloatKind.f64.format.order x 4890909195324358656 == some .lt) = true then f2iT x (fun n => some (.u64 (BitVec.ofInt 64 n &&& maskF 32)))
 else subT x 4890909195324358656 (fun r => f2iT r (fun n => some (.u64 (BitVec.ofInt 64 n ^^^ 9223372036854775808#64)))) := by kernel_rfl
theorem nf_numt64 (x : Nat) : ex [] (fun _ => []) Tryz.f122 [.f .f64 x, .i .i64 64, .bool true] some = f2iT x (fun n => some (.u64 (BitVec.ofInt 64 n &&& maskF 64))) := by kernel_rfl
theorem nf_numf64 (x : Nat) : ex [] (fun _ => []) Tryz.f122 [.f .f64 x, .i .i64 64, .bool false] some =
 if (FloatKind.f64.format.order x 4890909195324358656 == some .lt) = true then f2iT x (fun n => some (.u64 (BitVec.ofInt 64 n &&& maskF 64)))
 else subT x 4890909195324358656 (fun r => f2iT r (fun n => some (.u64 (BitVec.ofInt 64 n ^^^ 9223372036854775808#64)))) := by kernel_rfl
def numF (x : Nat) (t : Int) : BitVec 64 := numV t (ng Ieee.double x) (BitVec.ofNat 64 (wh Ieee.double x))
theorem f2i_fin {x : Nat} (hf : fin Ieee.double x = true) (h0 : -9223372036854775808 ≤ sg (ng Ieee.double x) (wh Ieee.double x)) (h1 : sg (ng Ieee.double x) (wh Ieee.double x) ≤ 9223372036854775807) (K : Int → Option D) :
  f2iT x K = K (sg (ng Ieee.double x) (wh Ieee.double x)) := by
 have e : (FloatKind.f64.decode x).toInt .zero = some (sg (ng Ieee.double x) (wh Ieee.double x)) := by
  show (Ieee.double.read x).toInt .zero = _
  rw [read_fin hf, toInt_num _ _ _ (pl_ge two_d x)]
  rfl
 unfold f2iT f2i
 rw [e]
 have hr : IntKind.i64.min ≤ sg (ng Ieee.double x) (wh Ieee.double x) ∧ sg (ng Ieee.double x) (wh Ieee.double x) ≤ IntKind.i64.max := ⟨h0, h1⟩
 simp only [hr, and_self, if_true]
theorem sg_num {t : Int} (ht : okC t = true) {s n : Bool} {N : Nat} (hb : N ≤ bnd t s n) : BitVec.ofInt 64 (sg n N) &&& maskF t = numV t n (BitVec.ofNat 64 N) := by
 unfold sg numV
 cases n
 ·simp only [Bool.false_eq_true, if_false]
  have e : BitVec.ofInt 64 (N : Int) = BitVec.ofNat 64 N := rfl
  rw [e]
  refine Go.Wh.and_fit (okC_W ht) ?_
  rw [BitVec.le_def, BitVec.toNat_ofNat]
  rcases okC_cases ht with rfl | rfl <;> cases s <;> simp only [bnd, Bool.false_eq_true, if_false, if_true] at hb
  ·show _ ≤ 4294967295; omega
  ·show _ ≤ 4294967295; omega
  ·show _ ≤ 18446744073709551615; omega
  ·show _ ≤ 18446744073709551615; omega
 ·simp only [if_true]
  congr 1
  apply BitVec.eq_of_toNat_eq
  rw [BitVec.toNat_ofInt, BitVec.toNat_sub, BitVec.toNat_ofNat]
  have z : (0#64).toNat = 0 := rfl
  omega
theorem xor_top {y : BitVec 64} (h : y.toNat < 2 ^ 63) : (y ^^^ 9223372036854775808#64).toNat = y.toNat + 9223372036854775808 := by
 have e : y ^^^ 9223372036854775808#64 = 9223372036854775808#64 ||| y := by
  apply BitVec.eq_of_getLsbD_eq
  intro i hi
  rw [BitVec.getLsbD_xor, BitVec.getLsbD_or]
  by_cases h63 : i = 63
  ·subst h63
   have : y.getLsbD 63 = false := Nat.testBit_lt_two_pow h
   rw [this]; decide
  ·have : (9223372036854775808#64).getLsbD i = false := by
    have key : ∀ j : Fin 64, j.val ≠ 63 → (9223372036854775808#64).getLsbD j.val = false := by decide
    exact key ⟨i, hi⟩ h63
   rw [this, Bool.xor_false, Bool.false_or]
 rw [e, or_two 63 (by decide) h]
 show 9223372036854775808 + y.toNat = _
 omega
theorem top_parts {x : Nat} (hf : fin Ieee.double x = true) (h1 : 9223372036854775808 ≤ wh Ieee.double x) (h2 : wh Ieee.double x ≤ 18446744073709551615) : pl Ieee.double x = 11 ∧ 4503599627370496 ≤ mg Ieee.double x ∧ mg Ieee.double x < 9007199254740992 ∧ wh Ieee.double x = mg Ieee.double x * 2048 := by
 have hm := mg_lt Ieee.double x
 have hB : Ieee.double.binade = 4503599627370496 := by decide
 have hw : wh Ieee.double x = mg Ieee.double x * 2 ^ (pl Ieee.double x).toNat / 2 ^ (-(pl Ieee.double x)).toNat := sc_div _ (pl_ge two_d x)
 have hpl : pl Ieee.double x = -1074 + (up Ieee.double (rg Ieee.double x) : Int) := rfl
 have hp0 : 0 ≤ pl Ieee.double x := by
  rcases Int.lt_or_le (pl Ieee.double x) 0 with h | h
  ·exfalso
   have e : (pl Ieee.double x).toNat = 0 := by omega
   rw [e, Nat.pow_zero, Nat.mul_one] at hw
   have := Nat.div_le_self (mg Ieee.double x) (2 ^ (-(pl Ieee.double x)).toNat)
   omega
  ·exact h
 have hu : up Ieee.double (rg Ieee.double x) ≠ 0 := by omega
 have hg : 4503599627370496 ≤ mg Ieee.double x := by rw [← hB]; exact mag_ge hu
 have e0 : (-(pl Ieee.double x)).toNat = 0 := by omega
 rw [e0, Nat.pow_zero, Nat.div_one] at hw
 obtain ⟨k, hk⟩ : ∃ k : Nat, pl Ieee.double x = (k : Int) := ⟨(pl Ieee.double x).toNat, by omega⟩
 have ek : (pl Ieee.double x).toNat = k := by omega
 rw [ek] at hw
 have k1 : k = 11 := by
  rcases Nat.lt_trichotomy k 11 with h | h | h
  ·exfalso
   have : 2 ^ k ≤ 2 ^ 10 := Nat.pow_le_pow_right (by decide) (by omega)
   have : mg Ieee.double x * 2 ^ k ≤ 9007199254740991 * 2 ^ 10 := Nat.mul_le_mul (by omega) this
   omega
  ·exact h
  ·exfalso
   have : 2 ^ 12 ≤ 2 ^ k := Nat.pow_le_pow_right (by decide) (by omega)
   have : 4503599627370496 * 2 ^ 12 ≤ mg Ieee.double x * 2 ^ k := Nat.mul_le_mul hg this
   omega
 subst k1
 exact ⟨by omega, hg, by omega, by rw [hw]⟩
theorem sub_top {x : Nat} (hf : fin Ieee.double x = true) (hn : ng Ieee.double x = false) (h1 : 9223372036854775808 ≤ wh Ieee.double x) (h2 : wh Ieee.double x ≤ 18446744073709551615) :
  ∃ r, Ieee.double.sub x 4890909195324358656 = some r ∧ fin Ieee.double r = true ∧ ng Ieee.double r = false ∧ wh Ieee.double r + 9223372036854775808 = wh Ieee.double x := by
 obtain ⟨p1, p2, p3, p4⟩ := top_parts hf h1 h2
 have hld : Ieee.double.leastPlace = -1074 := double_least
 have hc : Ieee.double.read 4890909195324358656 = .number false 4503599627370496 11 := by decide
 have hk : ∃ k, mg Ieee.double x = 4503599627370496 + k := ⟨mg Ieee.double x - 4503599627370496, by omega⟩
 obtain ⟨k, hk⟩ := hk
 have hfd : (Ieee.double.fractionBits : Int) = 52 := rfl
 have hBd : Ieee.double.binade = 4503599627370496 := by decide
 have hlog : k.log2 ≤ 52 := by
  by_cases h0 : k = 0
  ·rw [h0]; decide
  ·have : k.log2 < 53 := (Nat.log2_lt h0).2 (by omega)
   omega
 obtain ⟨r, r1, r2⟩ := has_exact Ieee.double (by rw [hld]; omega) (by decide) (m := k) (p := 11) (by omega) (by rw [hld]; omega)
  (by rw [hld, hfd, show ((2 ^ Ieee.double.exponentBits - 1 : Nat) : Int) = 2047 from by decide]; omega)
 have e := nearest_exact Ieee.double (by rw [hld]; omega) false (m := k) (p := 11) (by omega) r1 r2
 obtain ⟨a1, a2, a3⟩ := wo_word Ieee.double false r1
 refine ⟨Ieee.double.word false r, ?_, a1, a2, ?_⟩
 ·unfold Ieee.Format.sub
  rw [read_fin hf, hc, hn, p1]
  show (Ieee.Datum.sum (.number false (mg Ieee.double x) 11) (.number true 4503599627370496 11)).map _ = _
  have es : Ieee.Datum.sum (.number false (mg Ieee.double x) 11) (.number true 4503599627370496 11) = some (.number false k 11) := by
   unfold Ieee.Datum.sum
   simp only [signed_eq]
   have z : ((11 : Int) - min 11 11).toNat = 0 := by decide
   simp only [z, Nat.pow_zero, Nat.mul_one]
   have t : sg false (mg Ieee.double x) + sg true 4503599627370496 = (k : Int) := by
    show (mg Ieee.double x : Int) + -(4503599627370496 : Nat) = _
    omega
   rw [t]
   have c1 : decide ((k : Int) < 0) = false := decide_eq_false (by omega)
   simp only [c1, Int.natAbs_natCast, Bool.false_and, ite_self]
   rfl
  rw [es]
  show some (Ieee.double.nearest false k 11) = _
  rw [e]
 ·have ew : wo Ieee.double (Ieee.double.word false r) = sc k 11 := by rw [wo_val two_d a3, ← r2]
  have : wh Ieee.double (Ieee.double.word false r) = k * 2048 := by
   unfold wh
   rw [ew, sc_div k (by decide)]
   show k * 2048 / 1 = _
   rw [Nat.div_one]
  rw [this, p4, hk]
  omega
noncomputable def numbY : Ev.Spec := guarded fun | [.f .f64 x, .i .i64 t, .bool s] => some (okC t && okX x t s, .u64 (numF x t)) | _ => none
theorem t_numbY : Snd 122 numbY := by
 refine Sound.guard (execFn_sound (ann := fun _ => []) TableOK.nil mixed Tryz.func122 (by kernel_rfl) 50) fun ds d h => ?_
 split at h
 ·rename_i x t s
  simp only [Option.some.injEq, Prod.mk.injEq, Bool.and_eq_true] at h
  obtain ⟨⟨ht, hk⟩, rfl⟩ := h
  unfold okX at hk
  simp only [Bool.and_eq_true, decide_eq_true_eq] at hk
  obtain ⟨hf, hb⟩ := hk
  have cl : ∀ c n, IsInt Ieee.double c false n → 0 < n → (FloatKind.f64.format.order x c == some .lt) = (ng Ieee.double x || decide (wh Ieee.double x < n)) := by
   intro c n hc hn
   have hU := U_pos
   have hp : 0 < n * U := Nat.mul_pos hn hU
   rw [show FloatKind.f64.format.order x c = _ from order_int hf hc, cmp_lt, Bool.eq_iff_iff]
   have g := wh_ge (f := Ieee.double) (x := x) (n := n)
   simp only [decide_eq_true_eq, Bool.or_eq_true]
   unfold sg
   cases ng Ieee.double x
   ·simp only [Bool.false_eq_true, if_false, false_or]; omega
   ·simp only [if_true, Bool.false_eq_true, if_false, true_or, iff_true]; omega
  have small : sg (ng Ieee.double x) (wh Ieee.double x) ≤ 9223372036854775807 → f2iT x (fun n => some (.u64 (BitVec.ofInt 64 n &&& maskF t))) = some (.u64 (numF x t)) := by
   intro h1
   have h0 : -9223372036854775808 ≤ sg (ng Ieee.double x) (wh Ieee.double x) := by
    unfold sg
    rcases okC_cases ht with rfl | rfl <;> cases s <;> cases hg : ng Ieee.double x <;> rw [hg] at hb <;> simp [bnd] at hb ⊢ <;> omega
   rw [f2i_fin hf h0 h1, sg_num ht hb]
   rfl
  cases s
  ·have rest : (if (FloatKind.f64.format.order x 4890909195324358656 == some .lt) = true then f2iT x (fun n => some (.u64 (BitVec.ofInt 64 n &&& maskF t)))
       else subT x 4890909195324358656 (fun r => f2iT r (fun n => some (.u64 (BitVec.ofInt 64 n ^^^ 9223372036854775808#64))))) = some (.u64 (numF x t)) := by
    rw [cl _ _ c_63 (by decide)]
    by_cases hl : (ng Ieee.double x || decide (wh Ieee.double x < 9223372036854775808)) = true
    ·rw [if_pos hl]
     refine small ?_
     simp only [Bool.or_eq_true, decide_eq_true_eq] at hl
     unfold sg
     rcases hl with h | h
     ·rw [if_pos h]; omega
     ·split <;> omega
    ·rw [if_neg hl]
     simp only [Bool.or_eq_true, decide_eq_true_eq, not_or, Bool.not_eq_true] at hl
     obtain ⟨hn, hge⟩ := hl
     rw [hn] at hb
     have h64 : wh Ieee.double x ≤ 18446744073709551615 := by
      rcases okC_cases ht with rfl | rfl <;> simp [bnd] at hb <;> omega
     obtain ⟨r, r1, r2, r3, r4⟩ := sub_top hf hn (by omega) h64
     unfold subT
     rw [show FloatKind.f64.format.sub x 4890909195324358656 = some r from r1]
     have hr : sg (ng Ieee.double r) (wh Ieee.double r) = (wh Ieee.double r : Int) := by rw [r3]; rfl
     show f2iT r _ = _
     rw [f2i_fin r2 (by rw [hr]; omega) (by rw [hr]; omega), hr]
     congr 2
     unfold numF numV
     rw [hn]
     simp only [Bool.false_eq_true, if_false]
     apply BitVec.eq_of_toNat_eq
     have e1 : (BitVec.ofInt 64 (wh Ieee.double r : Int)).toNat = wh Ieee.double r := by rw [ofInt_small (by omega) (by omega)]; omega
     rw [xor_top (by rw [e1]; omega), e1, BitVec.toNat_ofNat]
     omega
   rcases okC_cases ht with rfl | rfl
   ·exact (nf_numf32 x).trans rest
   ·exact (nf_numf64 x).trans rest
  ·have hs : sg (ng Ieee.double x) (wh Ieee.double x) ≤ 9223372036854775807 := by
    unfold sg
    rcases okC_cases ht with rfl | rfl <;> cases hg : ng Ieee.double x <;> rw [hg] at hb <;> simp [bnd] at hb ⊢ <;> omega
   rcases okC_cases ht with rfl | rfl
   ·exact (nf_numt32 x).trans (small hs)
   ·exact (nf_numt64 x).trans (small hs)
 ·cases h
def fitV (f t : Int) (s : Bool) (a : BitVec 64) : Bool := finW f a && decide (wh (fmtW f) a.toNat ≤ bnd t s (ng (fmtW f) a.toNat))
def hldV (f t : Int) (s : Bool) (a : BitVec 64) : BitVec 64 := if isNW f a = true then 0#64 else if fitV f t s a = true then numV t (ng (fmtW f) a.toNat) (BitVec.ofNat 64 (wh (fmtW f) a.toNat)) else numV t (ng (fmtW f) a.toNat) (BitVec.ofNat 64 (bnd t s (ng (fmtW f) a.toNat)))
noncomputable def cutS : Ev.Spec := joined fun | [.i .i64 f, .i .i64 t, .bool s, .u64 a] => some (.tup [.u64 (ifF (mayC f t a && fitV f t s a) (hldV f t s a)), .i .i64 (if mayC f t a = true then (if fitV f t s a = true then 0 else 6) else 2)]) | _ => none
noncomputable def heldS : Ev.Spec := joined fun | [.i .i64 f, .i .i64 t, .bool s, .u64 a] => some (.tup [.u64 (ifF (mayC f t a) (hldV f t s a)), .i .i64 (errF (mayC f t a))]) | _ => none
noncomputable def lookG (C : Nat → Int → Bool → Bool) (L : Nat → Int → Bool → Int) : Ev.Spec := guarded fun | [.f .f64 x, .i .i64 t, .bool s] => some (C x t s, .i .i64 (L x t s)) | _ => none
noncomputable def numbG (C : Nat → Int → Bool → Bool) (N : Nat → Int → BitVec 64) : Ev.Spec := guarded fun | [.f .f64 x, .i .i64 t, .bool s] => some (C x t s, .u64 (N x t)) | _ => none
noncomputable def ofG (C : Int → BitVec 64 → Bool) (X : Int → BitVec 64 → Nat) : Ev.Spec := guarded fun | [.i .i64 w, .u64 a] => some (C w a, .f .f64 (X w a)) | _ => none
noncomputable def ofH (C : Int → BitVec 64 → Bool) : Ev.Spec := guarded fun | [.i .i64 w, .u64 a] => some (C w a, .nan .f64) | _ => none
theorem cut_no (f t : Int) (s : Bool) (a : BitVec 64) : ex [(119, mayNoS)] (fun _ => []) Tryz.f124 [.i .i64 f, .i .i64 t, .bool s, .u64 a] some = if (!mayC f t a) = true then some (.tup [.u64 0#64, .i .i64 2]) else none := by kernel_rfl
theorem held_no (f t : Int) (s : Bool) (a : BitVec 64) : ex [(119, mayNoS)] (fun _ => []) Tryz.f53 [.i .i64 f, .i .i64 t, .bool s, .u64 a] some = if (!mayC f t a) = true then some (.tup [.u64 0#64, .i .i64 2]) else none := by kernel_rfl
theorem cut_yes (M : Int → Int → BitVec 64 → Bool) (C : Int → BitVec 64 → Bool) (X : Int → BitVec 64 → Nat) (B : Nat → Int → Bool → Bool) (L : Nat → Int → Bool → Int) (E : Nat → Int → Bool → Bool) (N : Nat → Int → BitVec 64) (f t : Int) (s : Bool) (a : BitVec 64) : ex [(119, mayG M), (120, ofG C X), (121, lookG B L), (122, numbG E N)] (fun _ => []) Tryz.f124 [.i .i64 f, .i .i64 t, .bool s, .u64 a] some =
 if (!M f t a) = true then some (.tup [.u64 0#64, .i .i64 2]) else if C f a = true then if B (X f a) t s = true then if (!(L (X f a) t s == 0)) = true then some (.tup [.u64 0#64, .i .i64 6]) else if E (X f a) t s = true then some (.tup [.u64 (N (X f a) t), .i .i64 0]) else none else none else none := by kernel_rfl
theorem cut_nan (M : Int → Int → BitVec 64 → Bool) (C : Int → BitVec 64 → Bool) (f t : Int) (s : Bool) (a : BitVec 64) : ex [(119, mayG M), (120, ofH C), (121, lookN)] (fun _ => []) Tryz.f124 [.i .i64 f, .i .i64 t, .bool s, .u64 a] some =
 if (!M f t a) = true then some (.tup [.u64 0#64, .i .i64 2]) else if C f a = true then if okC t = true then some (.tup [.u64 0#64, .i .i64 6]) else none else none := by kernel_rfl
def heldT (t : Int) (s : Bool) (l : Int) (x : Option D) : Option D :=
 if (l == 2) = true then (if s = true then some (.tup [.u64 (if t = 32 then 2147483648#64 else 9223372036854775808#64), .i .i64 0]) else some (.tup [.u64 0#64, .i .i64 0])) else
 if (l == 3) = true then (if s = true then some (.tup [.u64 (if t = 32 then 2147483647#64 else 9223372036854775807#64), .i .i64 0]) else some (.tup [.u64 (if t = 32 then 4294967295#64 else 18446744073709551615#64), .i .i64 0])) else
 if (l == 1) = true then some (.tup [.u64 0#64, .i .i64 0]) else x
theorem held_yes32 (M : Int → Int → BitVec 64 → Bool) (C : Int → BitVec 64 → Bool) (X : Int → BitVec 64 → Nat) (B : Nat → Int → Bool → Bool) (L : Nat → Int → Bool → Int) (E : Nat → Int → Bool → Bool) (N : Nat → Int → BitVec 64) (f : Int) (s : Bool) (a : BitVec 64) : ex [(119, mayG M), (120, ofG C X), (121, lookG B L), (122, numbG E N)] (fun _ => []) Tryz.f53 [.i .i64 f, .i .i64 32, .bool s, .u64 a] some =
 if (!M f 32 a) = true then some (.tup [.u64 0#64, .i .i64 2]) else if C f a = true then if B (X f a) 32 s = true then heldT 32 s (L (X f a) 32 s) (if E (X f a) 32 s = true then some (.tup [.u64 (N (X f a) 32), .i .i64 0]) else none) else none else none := by kernel_rfl
theorem held_nan32 (M : Int → Int → BitVec 64 → Bool) (C : Int → BitVec 64 → Bool) (f : Int) (s : Bool) (a : BitVec 64) : ex [(119, mayG M), (120, ofH C), (121, lookN)] (fun _ => []) Tryz.f53 [.i .i64 f, .i .i64 32, .bool s, .u64 a] some =
 if (!M f 32 a) = true then some (.tup [.u64 0#64, .i .i64 2]) else if C f a = true then some (.tup [.u64 0#64, .i .i64 0]) else none := by kernel_rfl
theorem held_yes64 (M : Int → Int → BitVec 64 → Bool) (C : Int → BitVec 64 → Bool) (X : Int → BitVec 64 → Nat) (B : Nat → Int → Bool → Bool) (L : Nat → Int → Bool → Int) (E : Nat → Int → Bool → Bool) (N : Nat → Int → BitVec 64) (f : Int) (s : Bool) (a : BitVec 64) : ex [(119, mayG M), (120, ofG C X), (121, lookG B L), (122, numbG E N)] (fun _ => []) Tryz.f53 [.i .i64 f, .i .i64 64, .bool s, .u64 a] some =
 if (!M f 64 a) = true then some (.tup [.u64 0#64, .i .i64 2]) else if C f a = true then if B (X f a) 64 s = true then heldT 64 s (L (X f a) 64 s) (if E (X f a) 64 s = true then some (.tup [.u64 (N (X f a) 64), .i .i64 0]) else none) else none else none := by kernel_rfl
theorem held_nan64 (M : Int → Int → BitVec 64 → Bool) (C : Int → BitVec 64 → Bool) (f : Int) (s : Bool) (a : BitVec 64) : ex [(119, mayG M), (120, ofH C), (121, lookN)] (fun _ => []) Tryz.f53 [.i .i64 f, .i .i64 64, .bool s, .u64 a] some =
 if (!M f 64 a) = true then some (.tup [.u64 0#64, .i .i64 2]) else if C f a = true then some (.tup [.u64 0#64, .i .i64 0]) else none := by kernel_rfl
theorem okX_fit {f t : Int} (hf : okC f = true) (s : Bool) {a : BitVec 64} (hn : isNW f a = false) : okX (wideN f a) t s = fitV f t s a ∧ ng Ieee.double (wideN f a) = ng (fmtW f) a.toNat ∧ isN Ieee.double (wideN f a) = false ∧ (finW f a = true → wh Ieee.double (wideN f a) = wh (fmtW f) a.toNat) := by
 unfold okX fitV
 cases h : finW f a
 ·obtain ⟨a1, a2, a3⟩ := wide_inf hf h hn
  rw [a1]
  exact ⟨rfl, a3, a2, fun h => by cases h⟩
 ·obtain ⟨a1, a2, a3⟩ := wide_fin hf h
  have e : wh Ieee.double (wideN f a) = wh (fmtW f) a.toNat := by unfold wh; rw [a3]
  rw [a1, a2, e]
  exact ⟨rfl, rfl, fin_notN a1, fun _ => rfl⟩
theorem t_Cut : Snd 124 cutS := by
 refine Sound.of_pt fun ds d hd => ?_
 split at hd
 ·rename_i f t s a
  cases hd
  cases hm : mayC f t a
  ·refine (execFn_sound (P := Tryz.prog) (G := G0) (ann := fun _ => []) (TableOK.cons (may_no t_may) TableOK.nil) mixed Tryz.func124 (by kernel_rfl) 50).pt ((cut_no f t s a).trans ?_)
   rw [hm]; rfl
  ·obtain ⟨hf, ht, ha⟩ := mayC_fit hm
   cases hn : isNW f a
   ·have S := execFn_sound (P := Tryz.prog) (G := G0) (ann := fun _ => []) (TableOK.cons t_may (TableOK.cons t_ofY (TableOK.cons t_lookY (TableOK.cons t_numbY TableOK.nil)))) mixed Tryz.func124 (by kernel_rfl) 50
    obtain ⟨e1, e2, e3, e4⟩ := okX_fit (t := t) hf s hn
    refine S.pt ((cut_yes mayC (fun w a => okC w && fitF w a && !isNW w a) wideN (fun x t _ => okC t && !isN Ieee.double x) lookV (fun x t s => okC t && okX x t s) numF f t s a).trans ?_)
    rw [hm, hf, ha, hn, ht, e3, e1]
    unfold lookV
    rw [e1]
    cases hk : fitV f t s a
    ·cases hg : ng Ieee.double (wideN f a) <;> rfl
    ·have hfin : finW f a = true := by unfold fitV at hk; rw [Bool.and_eq_true] at hk; exact hk.1
     have e5 : numF (wideN f a) t = hldV f t s a := by
      unfold numF hldV
      rw [hn, hk, e2, e4 hfin]; rfl
     rw [e5]; rfl
   ·have S := execFn_sound (P := Tryz.prog) (G := G0) (ann := fun _ => []) (TableOK.cons t_may (TableOK.cons t_ofN (TableOK.cons t_lookN TableOK.nil))) mixed Tryz.func124 (by kernel_rfl) 50
    refine S.pt ((cut_nan mayC (fun w a => okC w && fitF w a && isNW w a) f t s a).trans ?_)
    have hk : fitV f t s a = false := by
     have : finW f a = false := by
      cases h : finW f a
      ·rfl
      ·have := fin_notN (f := fmtW f) (x := a.toNat) h
       unfold isNW at hn; rw [this] at hn; cases hn
     unfold fitV; rw [this]; rfl
    rw [hm, hf, ha, hn, ht, hk]; rfl
 ·cases hd
theorem t_Held : Snd 53 heldS := by
 refine Sound.of_pt fun ds d hd => ?_
 split at hd
 ·rename_i f t s a
  cases hd
  cases hm : mayC f t a
  ·refine (execFn_sound (P := Tryz.prog) (G := G0) (ann := fun _ => []) (TableOK.cons (may_no t_may) TableOK.nil) mixed Tryz.func53 (by kernel_rfl) 50).pt ((held_no f t s a).trans ?_)
   rw [hm]; rfl
  ·obtain ⟨hf, ht, ha⟩ := mayC_fit hm
   cases hn : isNW f a
   ·have S := execFn_sound (P := Tryz.prog) (G := G0) (ann := fun _ => []) (TableOK.cons t_may (TableOK.cons t_ofY (TableOK.cons t_lookY (TableOK.cons t_numbY TableOK.nil)))) mixed Tryz.func53 (by kernel_rfl) 50
    obtain ⟨e1, e2, e3, e4⟩ := okX_fit (t := t) hf s hn
    have key : ∀ x, heldT t s (lookV (wideN f a) t s) (if (okC t && okX (wideN f a) t s) = true then some (.tup [.u64 (numF (wideN f a) t), .i .i64 0]) else none) = some x → x = .tup [.u64 (ifF true (hldV f t s a)), .i .i64 (errF true)] → heldT t s (lookV (wideN f a) t s) (if (okC t && okX (wideN f a) t s) = true then some (.tup [.u64 (numF (wideN f a) t), .i .i64 0]) else none) = some (.tup [.u64 (ifF true (hldV f t s a)), .i .i64 (errF true)]) := fun x h1 h2 => by rw [h1, h2]
    have main : heldT t s (lookV (wideN f a) t s) (if (okC t && okX (wideN f a) t s) = true then some (.tup [.u64 (numF (wideN f a) t), .i .i64 0]) else none) = some (.tup [.u64 (ifF true (hldV f t s a)), .i .i64 (errF true)]) := by
     unfold lookV
     rw [e1, ht, e2]
     cases hk : fitV f t s a
     ·unfold hldV
      rw [hn, hk]
      rcases okC_cases ht with rfl | rfl <;> cases s <;> cases ng (fmtW f) a.toNat <;> kernel_rfl
     ·have hfin : finW f a = true := by unfold fitV at hk; rw [Bool.and_eq_true] at hk; exact hk.1
      have e5 : numF (wideN f a) t = hldV f t s a := by
       unfold numF hldV
       rw [hn, hk, e2, e4 hfin]; rfl
      rw [e5]; rfl
    rcases okC_cases ht with rfl | rfl
    ·refine S.pt ((held_yes32 mayC (fun w a => okC w && fitF w a && !isNW w a) wideN (fun x t _ => okC t && !isN Ieee.double x) lookV (fun x t s => okC t && okX x t s) numF f s a).trans ?_)
     rw [hm, hf, ha, hn, e3]
     exact main
    ·refine S.pt ((held_yes64 mayC (fun w a => okC w && fitF w a && !isNW w a) wideN (fun x t _ => okC t && !isN Ieee.double x) lookV (fun x t s => okC t && okX x t s) numF f s a).trans ?_)
     rw [hm, hf, ha, hn, e3]
     exact main
   ·have S := execFn_sound (P := Tryz.prog) (G := G0) (ann := fun _ => []) (TableOK.cons t_may (TableOK.cons t_ofN (TableOK.cons t_lookN TableOK.nil))) mixed Tryz.func53 (by kernel_rfl) 50
    have hv : hldV f t s a = 0#64 := by unfold hldV; rw [hn]; rfl
    rw [hv]
    rcases okC_cases ht with rfl | rfl
    ·refine S.pt ((held_nan32 mayC (fun w a => okC w && fitF w a && isNW w a) f s a).trans ?_)
     rw [hm, hf, ha, hn]; rfl
    ·refine S.pt ((held_nan64 mayC (fun w a => okC w && fitF w a && isNW w a) f s a).trans ?_)
     rw [hm, hf, ha, hn]; rfl
 ·cases hd
end Go.L23C
namespace Go.L23C
open Go.Ev Go.Proofs Go.RowKit Go.Wh Go.Fl
open Go.L23
open Go.L23
def proV (a : BitVec 64) : BitVec 64 := if isNW 32 a = true then 9221120237041090560#64 else BitVec.ofNat 64 (wideN 32 a)
noncomputable def proS : Ev.Spec := joined fun | [.u64 a] => some (.tup [.u64 (ifF (fitC 32 a) (proV a)), .i .i64 (errF (fitC 32 a))]) | _ => none
theorem fitC32 {a : BitVec 64} (h : fitC 32 a = true) : fitF 32 a = true := by
 unfold fitF
 rw [fit_C (by decide) a, h]; rfl
theorem nf_proE (a : BitVec 64) : ex [(120, ofG (fun _ _ => false) (fun _ _ => 0))] (fun _ => []) Tryz.f127 [.u64 a] some = if (!(a >>> 32 == 0#64)) = true then some (.tup [.u64 0#64, .i .i64 2]) else none := by kernel_rfl
theorem ofE : Snd 120 (ofG (fun _ _ => false) (fun _ _ => 0)) := fun ds K r h => by
 unfold ofG guarded at h
 dsimp only at h
 split at h
 ·rename_i b d hd
  split at hd
  ·cases hd; simp at h
  ·cases hd
 ·cases h
theorem nf_proY (C : Int → BitVec 64 → Bool) (X : Int → BitVec 64 → Nat) (a : BitVec 64) : ex [(120, ofG C X), (209, of64S)] (fun _ => []) Tryz.f127 [.u64 a] some =
 if (!(a >>> 32 == 0#64)) = true then some (.tup [.u64 0#64, .i .i64 2]) else if C 32 a = true then if (!(FloatKind.f64.format.order (X 32 a) (X 32 a) == some .eq)) = true then some (.tup [.u64 9221120237041090560#64, .i .i64 0])
  else if decide (X 32 a < 2 ^ 64) = true then some (.tup [.u64 (BitVec.ofNat 64 (X 32 a)), .i .i64 0]) else none else none := by kernel_rfl
theorem nf_proN (C : Int → BitVec 64 → Bool) (a : BitVec 64) : ex [(120, ofH C)] (fun _ => []) Tryz.f127 [.u64 a] some =
 if (!(a >>> 32 == 0#64)) = true then some (.tup [.u64 0#64, .i .i64 2]) else if C 32 a = true then some (.tup [.u64 9221120237041090560#64, .i .i64 0]) else none := by kernel_rfl
theorem wide_lt {w : Int} (hw : okC w = true) {a : BitVec 64} (hn : isNW w a = false) : wideN w a < 2 ^ 64 := by
 rcases okC_cases hw with rfl | rfl
 ·unfold wideN
  rw [if_pos rfl]
  rcases longer_lt (Ieee.single.read a.toNat) with h | ⟨s, t, h⟩
  ·exact h
  ·exfalso
   have h2 := isN_iff two_s a.toNat
   rw [h] at h2
   have h3 : isN Ieee.single a.toNat = false := hn
   rw [h3] at h2
   cases h2
 ·exact a.isLt
theorem wide_num {w : Int} (hw : okC w = true) {a : BitVec 64} (hn : isNW w a = false) : (FloatKind.f64.format.order (wideN w a) (wideN w a) == some Ordering.eq) = true := by
 have h : isN Ieee.double (wideN w a) = false := (okX_fit (t := 64) hw true hn).2.2.1
 have := order_self (f := Ieee.double) two_d (x := wideN w a)
 rw [h] at this
 exact this
theorem t_Pro : Snd 127 proS := by
 refine Sound.of_pt fun ds d hd => ?_
 split at hd
 ·rename_i a
  cases hd
  cases hc : fitC 32 a
  ·have hc' : (a >>> 32 == 0#64) = false := hc
   refine (execFn_sound (P := Tryz.prog) (G := G0) (ann := fun _ => []) (TableOK.cons ofE TableOK.nil) mixed Tryz.func127 (by kernel_rfl) 50).pt ((nf_proE a).trans ?_)
   rw [hc']; rfl
  ·have hc' : (a >>> 32 == 0#64) = true := hc
   have ha := fitC32 hc
   cases hn : isNW 32 a
   ·refine (execFn_sound (P := Tryz.prog) (G := G0) (ann := fun _ => []) (TableOK.cons t_ofY (TableOK.cons x_of64 TableOK.nil)) mixed Tryz.func127 (by kernel_rfl) 50).pt ((nf_proY (fun w a => okC w && fitF w a && !isNW w a) wideN a).trans ?_)
    rw [hc', ha, hn, wide_num (by decide) hn, decide_eq_true (wide_lt (by decide) hn)]
    unfold proV
    rw [hn]; rfl
   ·refine (execFn_sound (P := Tryz.prog) (G := G0) (ann := fun _ => []) (TableOK.cons t_ofN TableOK.nil) mixed Tryz.func127 (by kernel_rfl) 50).pt ((nf_proN (fun w a => okC w && fitF w a && isNW w a) a).trans ?_)
    rw [hc', ha, hn]
    unfold proV
    rw [hn]; rfl
 ·cases hd
def f2sT (x : Ieee.Datum) (K : D → Option D) : Option D := match x with
 | .nan _ _ => K (.nan .f32)
 | .infinity g => K (.f .f32 (FloatKind.f32.encode (.infinity g)))
 | .number g m e => if (FloatKind.f32.decode (FloatKind.f32.encode (.number g m e))).isInfinity then K (.xf .f32 (fun x => x < 2 ^ 32)) else K (.f .f32 (FloatKind.f32.encode (.number g m e)))
def nanU (k : FloatKind) : Int → Prop := fun m => ∃ n, nanI k n ∧ m = IntKind.u64.wrap n
def demK : D → Option D
 | .f .f32 n => if decide (n < 2 ^ 32) = true then some (.tup [.u64 (BitVec.setWidth 64 (BitVec.ofNat 32 n)), .i .i64 0]) else none
 | .nan .f32 => some (.tup [.xi .u64 (nanU .f32), .i .i64 0])
 | .xf .f32 p => some (.tup [.xi .u64 (fun m => ∃ n : Int, (∃ x : Nat, n = (x : Int) ∧ p x) ∧ m = IntKind.u64.wrap n), .i .i64 0])
 | _ => none
theorem nf_dem (a : BitVec 64) : ex [(120, ex [(205, to32S), (206, to64S)] (fun _ => []) Tryz.f120), (208, of32S)] (fun _ => []) Tryz.f126 [.u64 a] some =
 if (!(FloatKind.f64.format.order a.toNat a.toNat == some .eq)) = true then some (.tup [.u64 2143289344#64, .i .i64 0]) else f2sT (Ieee.double.read a.toNat) demK := by kernel_rfl
theorem S_dem : Sound Tryz.prog G0 126 (ex [(120, ex [(205, to32S), (206, to64S)] (fun _ => []) Tryz.f120), (208, of32S)] (fun _ => []) Tryz.f126) := execFn_sound (ann := fun _ => []) (TableOK.cons S_of (TableOK.cons x_of32 TableOK.nil)) mixed Tryz.func126 (by kernel_rfl) 50
theorem dem_nan {a : BitVec 64} (h : isNW 64 a = true) : Pt Tryz.prog G0 126 [.u64 a] (.tup [.u64 2143289344#64, .i .i64 0]) := by
 refine S_dem.pt ((nf_dem a).trans ?_)
 have : (FloatKind.f64.format.order a.toNat a.toNat == some Ordering.eq) = !isN Ieee.double a.toNat := order_self (f := Ieee.double) two_d
 rw [this, show isN Ieee.double a.toNat = true from h]; rfl
theorem dem_go {a : BitVec 64} (h : isNW 64 a = false) {d : D} (hd : f2sT (Ieee.double.read a.toNat) demK = some d) : Pt Tryz.prog G0 126 [.u64 a] d := by
 refine S_dem.pt ((nf_dem a).trans ?_)
 have : (FloatKind.f64.format.order a.toNat a.toNat == some Ordering.eq) = !isN Ieee.double a.toNat := order_self (f := Ieee.double) two_d
 rw [this, show isN Ieee.double a.toNat = false from h]
 exact hd
end Go.L23C
namespace Go.L23C
open Go.L23
open Go.L23
open Go.Ev Go.Proofs Go.RowKit Go.Wh Go.Fl
theorem wOK_okW {w : Int} (h : wOK w = true) : okW w = true := by rcases wOK_cases h with rfl | rfl <;> decide
theorem fit_and {w : Int} (hw : wOK w = true) (a : BitVec 64) : fitF w (a &&& maskF w) = true := by
 unfold fitF
 rw [wOK_okW hw, Bool.true_and]
 refine decide_eq_true ?_
 rw [BitVec.le_def, BitVec.toNat_and]
 exact Nat.and_le_right
theorem fit_of {w : Int} (hw : wOK w = true) {a : BitVec 64} (h : (a.toNat : Int) < pw w) : fitF w a = true := by
 unfold fitF
 rw [wOK_okW hw, Bool.true_and]
 refine decide_eq_true ?_
 rw [BitVec.le_def]
 rcases wOK_cases hw with rfl | rfl
 ·have e : (maskF 32).toNat = 4294967295 := by decide
  have e2 : pw 32 = 4294967296 := by decide
  rw [e]; omega
 ·have e : (maskF 64).toNat = 18446744073709551615 := by decide
  have := a.isLt
  rw [e]; omega
theorem sgn_pos {w : Int} {a : BitVec 64} (h : 2 * (a.toNat : Int) < pw w) : sgnF w a = (a.toNat : Int) := by unfold sgnF; rw [if_pos h]
theorem num_facts {t : Int} (ht : wOK t = true) (s n : Bool) {x : Nat} (hx : x ≤ bnd t s n) : fitF t (numV t n (BitVec.ofNat 64 x)) = true ∧ intV t s (numV t n (BitVec.ofNat 64 x)) = sg n x := by
 have hb : bnd t s n < 2 ^ 64 ∧ (s = true → (bnd t s n : Int) ≤ pw t / 2) ∧ (s = true → n = false → (bnd t s n : Int) < pw t / 2) ∧ (n = false → (bnd t s n : Int) < pw t) ∧ (s = false → n = true → bnd t s n = 0) := by
  rcases wOK_cases ht with rfl | rfl <;> cases s <;> cases n <;> decide
 obtain ⟨b1, b2, b3, b4, b5⟩ := hb
 have ex : (BitVec.ofNat 64 x).toNat = x := by rw [BitVec.toNat_ofNat, Nat.mod_eq_of_lt (by omega)]
 have hpe : pw t % 2 = 0 := by rcases wOK_cases ht with rfl | rfl <;> decide
 cases n
 ·have e : numV t false (BitVec.ofNat 64 x) = BitVec.ofNat 64 x := rfl
  rw [e]
  have hlt := b4 rfl
  refine ⟨fit_of ht (by rw [ex]; omega), ?_⟩
  cases s
  ·rw [intF, ex]; rfl
  ·have := b3 rfl rfl
   rw [intT, sgn_pos (by rw [ex]; omega), ex]; rfl
 ·have e : numV t true (BitVec.ofNat 64 x) = 0#64 - BitVec.ofNat 64 x &&& maskF t := rfl
  rw [e]
  refine ⟨fit_and ht _, ?_⟩
  cases s
  ·have h0 : x = 0 := by have := b5 rfl rfl; omega
   subst h0
   rw [intF]
   have : (0#64 - BitVec.ofNat 64 0 &&& maskF t) = 0#64 := by
    show (0#64 - 0#64 &&& maskF t) = 0#64
    rw [BitVec.sub_self, BitVec.zero_and]
   rw [this]; rfl
  ·rw [intT]
   have e2 : 0#64 - BitVec.ofNat 64 x = BitVec.ofInt 64 (-(x : Int)) := by
    rw [BitVec.ofInt_neg, BitVec.ofInt_natCast, BitVec.zero_sub]
   have := b2 rfl
   have hp : 0 < pw t := by rcases wOK_cases ht with rfl | rfl <;> decide
   rw [e2, sgn_num (wOK_okW ht) (by omega) (by omega)]; rfl
theorem held_int {f t : Int} (ht : wOK t = true) (s : Bool) {a : BitVec 64} (hn : noW f a = false) : fitF t (hldV f t s a) = true ∧ intV t s (hldV f t s a) = sg (ng (fmW f) a.toNat) (clB' (fmW f) (bnd t s (ng (fmW f) a.toNat)) a.toNat) := by
 have e : hldV f t s a = numV t (ng (fmW f) a.toNat) (BitVec.ofNat 64 (clB' (fmW f) (bnd t s (ng (fmW f) a.toNat)) a.toNat)) := by
  have hn' : isNW f a = false := hn
  unfold hldV
  rw [hn', if_neg (by decide)]
  unfold clB'
  have ef : fitV f t s a = (fin (fmW f) a.toNat && decide (wh (fmW f) a.toNat ≤ bnd t s (ng (fmW f) a.toNat))) := rfl
  rw [ef]
  by_cases hc : (fin (fmW f) a.toNat && decide (wh (fmW f) a.toNat ≤ bnd t s (ng (fmW f) a.toNat))) = true
  ·rw [if_pos hc, if_pos hc]; rfl
  ·rw [if_neg hc, if_neg hc]; rfl
 rw [e]
 exact num_facts ht s _ (clB_le _ _ _)
abbrev hV : Int → Int → Bool → BitVec 64 → BitVec 64 := fun f t s a => ifF (mayC f t a) (hldV f t s a)
abbrev fV : Int → Int → Bool → BitVec 64 → BitVec 64 := fun f t s a => ifF (mayC f t a) (fltV t (intV f s a))
theorem fit_le {w : Int} {a : BitVec 64} (h : fitF w a = true) : a ≤ maskF w := by
 unfold fitF at h
 rw [Bool.and_eq_true] at h
 exact of_decide_eq_true h.2
theorem held_fits {f t : Int} (ht : wOK t = true) (s : Bool) (a : BitVec 64) : hV f t s a ≤ maskF t := by
 have z : 0#64 ≤ maskF t := by rw [BitVec.le_def]; exact Nat.zero_le _
 show (if mayC f t a = true then hldV f t s a else 0#64) ≤ _
 split
 ·cases hn : noW f a
  ·exact fit_le (held_int ht s hn).1
  ·have e : hldV f t s a = 0#64 := by
    have hn' : isNW f a = true := hn
    unfold hldV
    rw [hn']; rfl
   rw [e]; exact z
 ·exact z
theorem float_fits {f t : Int} (ht : wOK t = true) (s : Bool) (a : BitVec 64) : fV f t s a ≤ maskF t := by
 have z : 0#64 ≤ maskF t := by rw [BitVec.le_def]; exact Nat.zero_le _
 show (if mayC f t a = true then fltV t (intV f s a) else 0#64) ≤ _
 split
 ·have hi := (flI_facts ht (intV f s a)).1
  have h2 := (in_iff ht).1 hi
  exact fit_le (fit_of ht (by
   rcases wOK_cases ht with rfl | rfl
   ·have e2 : pw 32 = 4294967296 := by decide
    have h3 : (flI 32 (intV f s a)).toNat < 4294967296 := h2
    rw [e2]
    exact Int.ofNat_lt.2 h3
   ·have e2 : pw 64 = 18446744073709551616 := by decide
    rw [e2]
    exact Int.ofNat_lt.2 (BitVec.isLt _)))
 ·exact z
end Go.L23C

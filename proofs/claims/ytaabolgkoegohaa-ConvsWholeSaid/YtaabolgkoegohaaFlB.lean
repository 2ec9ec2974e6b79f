/-
  Part of the proof; what its functions and lemmas say stands in the text.
-/
import Derived.Test.YtaabolgkoegohaaFlA
set_option linter.unusedSimpArgs false
set_option linter.unusedVariables false
/-!
Floats: the classes of a word; a short one as a long one; how it stands to a number.
-/
namespace Go.Fl
open Ieee Go.Ev Go.RowKit Go.Wh

def rg (f : Format) (x : Nat) : Nat := x % f.signWeight
def ng (f : Format) (x : Nat) : Bool := x / f.signWeight % 2 == 1
def isN (f : Format) (x : Nat) : Bool := decide (f.infRung < rg f x)
def fin (f : Format) (x : Nat) : Bool := decide (rg f x < f.infRung)
def mg (f : Format) (x : Nat) : Nat := mag f (rg f x)
def pl (f : Format) (x : Nat) : Int := f.leastPlace + (up f (rg f x) : Int)
/-- What it is worth without its sign. -/
def wo (f : Format) (x : Nat) : Nat := sc (mg f x) (pl f x)

/-- The two formats. -/
structure Two (f : Format) : Prop where
  is : f = single ∨ f = double
theorem Two.least {f : Format} (h : Two f) : -4000 ≤ f.leastPlace ∧ f.leastPlace ≤ -149 ∧ f.binade ≤ f.infRung := by
  rcases h.is with rfl | rfl <;> decide
theorem two_s : Two single := ⟨.inl rfl⟩
theorem two_d : Two double := ⟨.inr rfl⟩
theorem rg_lt (f : Format) (x : Nat) : rg f x < f.signWeight := Nat.mod_lt _ (two_pos _)
theorem read_as (f : Format) (x : Nat) : f.read x = f.read (f.word (ng f x) (rg f x)) := by
  obtain ⟨h1, h2⟩ := word_mod f (ng f x) (rg_lt f x)
  unfold Format.read
  simp only [h1, h2]
  rfl
theorem read_fin {f : Format} {x : Nat} (h : fin f x = true) : f.read x = .number (ng f x) (mg f x) (pl f x) := by
  rw [read_as, read_word f _ (of_decide_eq_true h)]
  rfl
theorem read_infty {f : Format} (t : Two f) {x : Nat} (h1 : fin f x = false) (h2 : isN f x = false) : f.read x = .infinity (ng f x) := by
  have e : rg f x = f.infRung := by
    have a := of_decide_eq_false h1
    have b := of_decide_eq_false h2
    omega
  rw [read_as, e, read_inf f _ t.least.2.2]
theorem read_none {f : Format} (t : Two f) {x : Nat} (h : isN f x = true) : ∃ u, f.read x = .nan (ng f x) u := by
  refine ⟨rg f x - f.infRung, ?_⟩
  rw [read_as, read_nan f _ (of_decide_eq_true h) (rg_lt f x) t.least.2.2]
theorem isN_iff {f : Format} (t : Two f) (x : Nat) : (f.read x).isNaN = isN f x := by
  cases h : isN f x
  · cases h1 : fin f x
    · rw [read_infty t h1 h]; rfl
    · rw [read_fin h1]; rfl
  · obtain ⟨u, hu⟩ := read_none t h
    rw [hu]; rfl
theorem fin_notN {f : Format} {x : Nat} (h : fin f x = true) : isN f x = false := by
  have := of_decide_eq_true h
  refine decide_eq_false ?_
  omega
theorem pl_ge {f : Format} (t : Two f) (x : Nat) : -4000 ≤ pl f x := by
  have := t.least.1
  unfold pl; omega
theorem mg_lt (f : Format) (x : Nat) : mg f x < 2 * f.binade := mag_lt f _
theorem up_lt {f : Format} {r : Nat} (h : r < f.infRung) : up f r + 2 ≤ 2 ^ f.exponentBits - 1 ∨ up f r = 0 := by
  unfold up
  split
  · exact .inr rfl
  · rename_i hb
    left
    unfold Format.infRung at h
    have : r / f.binade < 2 ^ f.exponentBits - 1 := by rw [Nat.div_lt_iff_lt_mul (binade_pos f)]; exact h
    have h1 : 1 ≤ r / f.binade := (Nat.one_le_div_iff (binade_pos f)).2 (by omega)
    omega
theorem wo_word (f : Format) (s : Bool) {r : Nat} (h : r < f.infRung) : fin f (f.word s r) = true ∧ ng f (f.word s r) = s ∧ rg f (f.word s r) = r := by
  obtain ⟨h1, h2⟩ := word_mod f s (Nat.lt_trans h (inf_lt f))
  refine ⟨decide_eq_true ?_, h2, h1⟩
  show f.word s r % f.signWeight < _
  rw [h1]; exact h
theorem wo_val {f : Format} (t : Two f) {x r : Nat} (h : rg f x = r) : wo f x = sc (val f r) f.leastPlace := by
  unfold wo mg pl
  rw [h, sc_up t.least.1, val_parts]
/-- A short one as a long one. -/
theorem longer {x : Nat} (h : fin single x = true) : fin double (double.write (single.read x)) = true ∧ ng double (double.write (single.read x)) = ng single x ∧ wo double (double.write (single.read x)) = wo single x := by
  rw [read_fin h]
  have hr := of_decide_eq_true h
  have hm := mg_lt single x
  have hB : single.binade = 8388608 := by decide
  have hBd : double.binade = 4503599627370496 := by decide
  have hu := up_lt hr
  have e255 : 2 ^ single.exponentBits - 1 = 255 := by decide
  rw [e255] at hu
  have hp : pl single x = -149 + (up single (rg single x) : Int) := rfl
  have hlog : (mg single x).log2 ≤ 23 := by
    by_cases h0 : mg single x = 0
    · rw [h0]; decide
    · have : (mg single x).log2 < 24 := (Nat.log2_lt h0).2 (by omega)
      omega
  have hfd : (double.fractionBits : Int) = 52 := rfl
  have hld : double.leastPlace = -1074 := double_least
  obtain ⟨r, h1, h2⟩ := has_exact double (by rw [hld]; omega) (by decide) (m := mg single x) (p := pl single x) (by omega) (by rw [hld]; omega)
    (by rw [hld, hfd, show ((2 ^ double.exponentBits - 1 : Nat) : Int) = 2047 from by decide]; omega)
  have e := nearest_exact double (by rw [hld]; omega) (ng single x) (pl_ge two_s x) h1 h2
  show fin double (double.nearest _ _ _) = true ∧ ng double (double.nearest _ _ _) = _ ∧ wo double (double.nearest _ _ _) = _
  rw [e]
  obtain ⟨a1, a2, a3⟩ := wo_word double (ng single x) h1
  exact ⟨a1, a2, by rw [wo_val two_d a3, ← h2]; rfl⟩
theorem longer_inf {x : Nat} (h1 : fin single x = false) (h2 : isN single x = false) : fin double (double.write (single.read x)) = false ∧ isN double (double.write (single.read x)) = false ∧ ng double (double.write (single.read x)) = ng single x := by
  rw [read_infty two_s h1 h2]
  show fin double (double.word _ double.infRung) = false ∧ isN double (double.word _ double.infRung) = false ∧ ng double (double.word _ double.infRung) = _
  obtain ⟨a1, a2⟩ := word_mod double (ng single x) (inf_lt double)
  refine ⟨decide_eq_false ?_, decide_eq_false ?_, a2⟩
  · show ¬ double.word _ _ % double.signWeight < _
    rw [a1]; exact Nat.lt_irrefl _
  · show ¬ double.infRung < double.word _ _ % double.signWeight
    rw [a1]; exact Nat.lt_irrefl _
theorem longer_lt (d : Datum) : double.write d < 2 ^ 64 ∨ ∃ s t, d = .nan s t := by
  cases d with
  | number s m e =>
    left
    show double.nearest s m e < 2 ^ 64
    unfold Format.nearest
    split
    · exact word_lt double s (two_pos _)
    · exact word_lt double s (Nat.lt_of_le_of_lt (Nat.min_le_right _ _) (inf_lt double))
  | infinity s => left; exact word_lt double s (inf_lt double)
  | nan s t => exact .inr ⟨s, t, rfl⟩
/-! ### How it stands to a number -/
theorem order_self {f : Format} (t : Two f) {x : Nat} : (f.order x x == some Ordering.eq) = !isN f x := by
  unfold Format.order
  cases h : isN f x
  · cases h1 : fin f x
    · rw [read_infty t h1 h]
      show (some (compare _ _) == some Ordering.eq) = true
      rw [Nat.compare_eq_eq.2 rfl]; rfl
    · rw [read_fin h1, order_num _ _ _ _ _ _ (pl_ge t x) (pl_ge t x), Int.compare_eq_eq.2 rfl]; rfl
  · obtain ⟨u, hu⟩ := read_none t h
    rw [hu]; rfl
/-- A float that is the whole number n, with a sign. -/
def IsInt (f : Format) (c : Nat) (s : Bool) (n : Nat) : Prop := ∃ m p, f.read c = .number s m p ∧ -4000 ≤ p ∧ sc m p = n * U
theorem sc_int (n : Nat) : sc n 0 = n * U := by unfold U sc; rw [Nat.one_mul]
theorem isInt_of {f : Format} {c : Nat} {s : Bool} {m : Nat} {k n : Nat} (h : f.read c = .number s m (-(k : Int))) (hk : k ≤ 4000) (hm : m = n * 2 ^ k) : IsInt f c s n := by
  refine ⟨m, _, h, by omega, ?_⟩
  rw [hm, ← sc_up (by omega), ← sc_int]
  congr 1
  omega
theorem isInt_up {f : Format} {c : Nat} {s : Bool} {m : Nat} {k n : Nat} (h : f.read c = .number s m (k : Int)) (hm : n = m * 2 ^ k) : IsInt f c s n := by
  refine ⟨m, _, h, by omega, ?_⟩
  rw [hm, ← sc_int, ← sc_up (by omega)]
  congr 1
  omega
theorem order_int {x c : Nat} {s : Bool} {n : Nat} (h : fin double x = true) (hc : IsInt double c s n) : double.order x c = some (compare (sg (ng double x) (wo double x)) (sg s (n * U))) := by
  obtain ⟨m, p, h1, h2, h3⟩ := hc
  unfold Format.order
  rw [read_fin h, h1, order_num _ _ _ _ _ _ (pl_ge two_d x) h2, h3]
  rfl
theorem order_infty {x c : Nat} {s : Bool} {n : Nat} (h1 : fin double x = false) (h2 : isN double x = false) (hc : IsInt double c s n) : double.order x c = some (if ng double x = true then .lt else .gt) := by
  obtain ⟨m, p, h3, _, _⟩ := hc
  unfold Format.order
  rw [read_infty two_d h1 h2, h3]
  rfl
theorem c_m1 : IsInt double 13830554455654793216 true 1 := isInt_of (m := 4503599627370496) (k := 52) (by decide) (by decide) (by decide)
theorem c_32 : IsInt double 4751297606875873280 false 4294967296 := isInt_of (m := 4503599627370496) (k := 20) (by decide) (by decide) (by decide)
theorem c_31 : IsInt double 4746794007248502784 false 2147483648 := isInt_of (m := 4503599627370496) (k := 21) (by decide) (by decide) (by decide)
theorem c_m31 : IsInt double 13970166044105375744 true 2147483649 := isInt_of (m := 4503599629467648) (k := 21) (by decide) (by decide) (by decide)
theorem c_64 : IsInt double 4895412794951729152 false 18446744073709551616 := isInt_up (m := 4503599627370496) (k := 12) (by decide) (by decide)
theorem c_63 : IsInt double 4890909195324358656 false 9223372036854775808 := isInt_up (m := 4503599627370496) (k := 11) (by decide) (by decide)
theorem c_m63 : IsInt double 14114281232179134464 true 9223372036854775808 := isInt_up (m := 4503599627370496) (k := 11) (by decide) (by decide)
/-- What is left when it is cut. -/
def wh (f : Format) (x : Nat) : Nat := wo f x / U
theorem wh_le {f : Format} {x n : Nat} : wh f x ≤ n ↔ wo f x < (n + 1) * U := by
  unfold wh
  rw [← Nat.lt_succ_iff, Nat.div_lt_iff_lt_mul U_pos]
theorem wh_ge {f : Format} {x n : Nat} : n ≤ wh f x ↔ n * U ≤ wo f x := by
  unfold wh
  rw [Nat.le_div_iff_mul_le U_pos]
/-- Great ones are whole. -/
theorem great_whole {x : Nat} (h : 9007199254740992 * U ≤ wo double x) : wo double x = wh double x * U := by
  have hm := mg_lt double x
  have hB : double.binade = 4503599627370496 := by decide
  have hp : 0 ≤ pl double x := by
    rcases Int.lt_or_le (pl double x) 0 with h0 | h0
    · exfalso
      have : wo double x < 9007199254740992 * U := by
        unfold wo
        obtain ⟨k, hk⟩ : ∃ k : Nat, pl double x + k = 0 := ⟨(-(pl double x)).toNat, by omega⟩
        have e : 9007199254740992 * U = sc (9007199254740992 * 2 ^ k) (pl double x) := by
          rw [← sc_up (pl_ge two_d x), hk, sc_int]
        rw [e]
        unfold sc
        refine Nat.mul_lt_mul_of_pos_right ?_ (two_pos _)
        have := two_pos k
        have : 9007199254740992 * 1 ≤ 9007199254740992 * 2 ^ k := Nat.mul_le_mul_left _ this
        omega
      omega
    · exact h0
  unfold wh wo
  obtain ⟨k, hk⟩ : ∃ k : Nat, pl double x = 0 + (k : Int) := ⟨(pl double x).toNat, by omega⟩
  rw [hk, sc_up (by omega), sc_int, Nat.mul_div_cancel _ U_pos]
end Go.Fl

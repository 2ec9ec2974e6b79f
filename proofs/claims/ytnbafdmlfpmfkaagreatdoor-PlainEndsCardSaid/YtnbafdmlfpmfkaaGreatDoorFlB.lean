/-
  Part of the proof; what its functions and lemmas say stands in the text.
-/
import Derived.Test.YtnbafdmlfpmfkaaGreatDoorFlA
import Derived.Test.YtnbafdmlfpmfkaaGreatDoorEvE
set_option linter.unusedSimpArgs false
set_option linter.unusedVariables false
namespace Go.Fl
open Ieee Go.Ev Go.RowKit Go.Wh
def rg (f : Format) (x : Nat) : Nat := x % f.signWeight
def ng (f : Format) (x : Nat) : Bool := x / f.signWeight % 2 == 1
def isN (f : Format) (x : Nat) : Bool := decide (f.infRung < rg f x)
def fin (f : Format) (x : Nat) : Bool := decide (rg f x < f.infRung)
def mg (f : Format) (x : Nat) : Nat := mag f (rg f x)
def pl (f : Format) (x : Nat) : Int := f.leastPlace + (up f (rg f x) : Int)
def wo (f : Format) (x : Nat) : Nat := sc (mg f x) (pl f x)
structure Two (f : Format) : Prop where
 is : f = single ∨ f = double
theorem Two.least {f : Format} (h : Two f) : -4000 ≤ f.leastPlace ∧ f.leastPlace ≤ -149 ∧ f.binade ≤ f.infRung := by
 rcases h.is with rfl | rfl <;> decide
theorem two_s : Two single := ⟨.inl rfl⟩
theorem two_d : Two double := ⟨.inr rfl⟩
theorem rg_lt (f : Format) (x : Nat) : rg f x < f.signWeight := Nat.mod_lt _ (two_pos _)
theorem read_as (f : Format) (x : Nat) : f.read x = f.read (f.word (ng f x) (rg f x)) := by
 obtain ⟨h1, h2⟩ := word_mod f (ng f x) (rg_lt f x)
 unfold Format.read
 simp only [h1, h2]
 rfl
theorem read_fin {f : Format} {x : Nat} (h : fin f x = true) : f.read x = .number (ng f x) (mg f x) (pl f x) := by
 rw [read_as, read_word f _ (of_decide_eq_true h)]
 rfl
theorem read_infty {f : Format} (t : Two f) {x : Nat} (h1 : fin f x = false) (h2 : isN f x = false) : f.read x = .infinity (ng f x) := by
 have e : rg f x = f.infRung := by
  have a := of_decide_eq_false h1
  have b := of_decide_eq_false h2
  omega
 rw [read_as, e, read_inf f _ t.least.2.2]
theorem read_none {f : Format} (t : Two f) {x : Nat} (h : isN f x = true) : ∃ u, f.read x = .nan (ng f x) u := by
 refine ⟨rg f x - f.infRung, ?_⟩
 rw [read_as, read_nan f _ (of_decide_eq_true h) (rg_lt f x) t.least.2.2]
theorem isN_iff {f : Format} (t : Two f) (x : Nat) : (f.read x).isNaN = isN f x := by
 cases h : isN f x
 ·cases h1 : fin f x
  ·rw [read_infty t h1 h]; rfl
  ·rw [read_fin h1]; rfl
 ·obtain ⟨u, hu⟩ := read_none t h
  rw [hu]; rfl
theorem fin_notN {f : Format} {x : Nat} (h : fin f x = true) : isN f x = false := by
 have := of_decide_eq_true h
 refine decide_eq_false ?_
 omega
theorem pl_ge {f : Format} (t : Two f) (x : Nat) : -4000 ≤ pl f x := by
 have := t.least.1
 unfold pl; omega
theorem mg_lt (f : Format) (x : Nat) : mg f x < 2 * f.binade := mag_lt f _
theorem up_lt {f : Format} {r : Nat} (h : r < f.infRung) : up f r + 2 ≤ 2 ^ f.exponentBits - 1 ∨ up f r = 0 := by
 unfold up
 split
 ·exact .inr rfl
 ·rename_i hb
  left
  unfold Format.infRung at h
  have : r / f.binade < 2 ^ f.exponentBits - 1 := by rw [Nat.div_lt_iff_lt_mul (binade_pos f)]; exact h
  have h1 : 1 ≤ r / f.binade := (Nat.one_le_div_iff (binade_pos f)).2 (by omega)
  omega
theorem wo_word (f : Format) (s : Bool) {r : Nat} (h : r < f.infRung) : fin f (f.word s r) = true ∧ ng f (f.word s r) = s ∧ rg f (f.word s r) = r := by
 obtain ⟨h1, h2⟩ := word_mod f s (Nat.lt_trans h (inf_lt f))
 refine ⟨decide_eq_true ?_, h2, h1⟩
 show f.word s r % f.signWeight < _
 rw [h1]; exact h
theorem wo_val {f : Format} (t : Two f) {x r : Nat} (h : rg f x = r) : wo f x = sc (val f r) f.leastPlace := by
 unfold wo mg pl
 rw [h, sc_up t.least.1, val_parts]
theorem longer {x : Nat} (h : fin single x = true) : fin double (double.write (single.read x)) = true ∧ ng double (double.write (single.read x)) = ng single x ∧ wo double (double.write (single.read x)) = wo single x := by
 rw [read_fin h]
 have hr := of_decide_eq_true h
 have hm := mg_lt single x
 have hB : single.binade = 8388608 := by decide
 have hBd : double.binade = 4503599627370496 := by decide
 have hu := up_lt hr
 have e255 : 2 ^ single.exponentBits - 1 = 255 := by decide
 rw [e255] at hu
 have hp : pl single x = -149 + (up single (rg single x) : Int) := rfl
 have hlog : (mg single x).log2 ≤ 23 := by
  by_cases h0 : mg single x = 0
  ·rw [h0]; decide
  ·have : (mg single x).log2 < 24 := (Nat.log2_lt h0).2 (by omega)
   omega
 have hfd : (double.fractionBits : Int) = 52 := rfl
 have hld : double.leastPlace = -1074 := double_least
 obtain ⟨r, h1, h2⟩ := has_exact double (by rw [hld]; omega) (by decide) (m := mg single x) (p := pl single x) (by omega) (by rw [hld]; omega)
  (by rw [hld, hfd, show ((2 ^ double.exponentBits - 1 : Nat) : Int) = 2047 from by decide]; omega)
 have e := nearest_exact double (by rw [hld]; omega) (ng single x) (pl_ge two_s x) h1 h2
 show fin double (double.nearest _ _ _) = true ∧ ng double (double.nearest _ _ _) = _ ∧ wo double (double.nearest _ _ _) = _
 rw [e]
 obtain ⟨a1, a2, a3⟩ := wo_word double (ng single x) h1
 exact ⟨a1, a2, by rw [wo_val two_d a3, ← h2]; rfl⟩
theorem longer_inf {x : Nat} (h1 : fin single x = false) (h2 : isN single x = false) : fin double (double.write (single.read x)) = false ∧ isN double (double.write (single.read x)) = false ∧ ng double (double.write (single.read x)) = ng single x := by
 rw [read_infty two_s h1 h2]
 show fin double (double.word _ double.infRung) = false ∧ isN double (double.word _ double.infRung) = false ∧ ng double (double.word _ double.infRung) = _
 obtain ⟨a1, a2⟩ := word_mod double (ng single x) (inf_lt double)
 refine ⟨decide_eq_false ?_, decide_eq_false ?_, a2⟩
 ·show ¬ double.word _ _ % double.signWeight < _
  rw [a1]; exact Nat.lt_irrefl _
 ·show ¬ double.infRung < double.word _ _ % double.signWeight
  rw [a1]; exact Nat.lt_irrefl _
theorem longer_lt (d : Datum) : double.write d < 2 ^ 64 ∨ ∃ s t, d = .nan s t := by
 cases d with
 | number s m e =>
  left
  show double.nearest s m e < 2 ^ 64
  unfold Format.nearest
  split
  ·exact word_lt double s (two_pos _)
  ·exact word_lt double s (Nat.lt_of_le_of_lt (Nat.min_le_right _ _) (inf_lt double))
 | infinity s => left; exact word_lt double s (inf_lt double)
 | nan s t => exact .inr ⟨s, t, rfl⟩
theorem order_self {f : Format} (t : Two f) {x : Nat} : (f.order x x == some Ordering.eq) = !isN f x := by
 unfold Format.order
 cases h : isN f x
 ·cases h1 : fin f x
  ·rw [read_infty t h1 h]
   show (some (compare _ _) == some Ordering.eq) = true
   rw [Nat.compare_eq_eq.2 rfl]; rfl
  ·rw [read_fin h1, order_num _ _ _ _ _ _ (pl_ge t x) (pl_ge t x), Int.compare_eq_eq.2 rfl]; rfl
 ·obtain ⟨u, hu⟩ := read_none t h
  rw [hu]; rfl
def IsInt (f : Format) (c : Nat) (s : Bool) (n : Nat) : Prop := ∃ m p, f.read c = .number s m p ∧ -4000 ≤ p ∧ sc m p = n * U
theorem sc_int (n : Nat) : sc n 0 = n * U := by unfold U sc; rw [Nat.one_mul]
theorem isInt_of {f : Format} {c : Nat} {s : Bool} {m : Nat} {k n : Nat} (h : f.read c = .number s m (-(k : Int))) (hk : k ≤ 4000) (hm : m = n * 2 ^ k) : IsInt f c s n := by
 refine ⟨m, _, h, by omega, ?_⟩
 rw [hm, ← sc_up (by omega), ← sc_int]
 congr 1
 omega
theorem isInt_up {f : Format} {c : Nat} {s : Bool} {m : Nat} {k n : Nat} (h : f.read c = .number s m (k : Int)) (hm : n = m * 2 ^ k) : IsInt f c s n := by
 refine ⟨m, _, h, by omega, ?_⟩
 rw [hm, ← sc_int, ← sc_up (by omega)]
 congr 1
 omega
theorem order_int {x c : Nat} {s : Bool} {n : Nat} (h : fin double x = true) (hc : IsInt double c s n) : double.order x c = some (compare (sg (ng double x) (wo double x)) (sg s (n * U))) := by
 obtain ⟨m, p, h1, h2, h3⟩ := hc
 unfold Format.order
 rw [read_fin h, h1, order_num _ _ _ _ _ _ (pl_ge two_d x) h2, h3]
 rfl
theorem order_infty {x c : Nat} {s : Bool} {n : Nat} (h1 : fin double x = false) (h2 : isN double x = false) (hc : IsInt double c s n) : double.order x c = some (if ng double x = true then .lt else .gt) := by
 obtain ⟨m, p, h3, _, _⟩ := hc
 unfold Format.order
 rw [read_infty two_d h1 h2, h3]
 rfl
theorem c_m1 : IsInt double 13830554455654793216 true 1 := isInt_of (m := 4503599627370496) (k := 52) (by decide) (by decide) (by decide)
theorem c_32 : IsInt double 4751297606875873280 false 4294967296 := isInt_of (m := 4503599627370496) (k := 20) (by decide) (by decide) (by decide)
theorem c_31 : IsInt double 4746794007248502784 false 2147483648 := isInt_of (m := 4503599627370496) (k := 21) (by decide) (by decide) (by decide)
theorem c_m31 : IsInt double 13970166044105375744 true 2147483649 := isInt_of (m := 4503599629467648) (k := 21) (by decide) (by decide) (by decide)
theorem c_64 : IsInt double 4895412794951729152 false 18446744073709551616 := isInt_up (m := 4503599627370496) (k := 12) (by decide) (by decide)
theorem c_63 : IsInt double 4890909195324358656 false 9223372036854775808 := isInt_up (m := 4503599627370496) (k := 11) (by decide) (by decide)
theorem c_m63 : IsInt double 14114281232179134464 true 9223372036854775808 := isInt_up (m := 4503599627370496) (k := 11) (by decide) (by decide)
def wh (f : Format) (x : Nat) : Nat := wo f x / U
theorem wh_ge {f : Format} {x n : Nat} : n ≤ wh f x ↔ n * U ≤ wo f x := by
 unfold wh
 rw [Nat.le_div_iff_mul_le U_pos]
theorem great_whole {x : Nat} (h : 9007199254740992 * U ≤ wo double x) : wo double x = wh double x * U := by
 have hm := mg_lt double x
 have hB : double.binade = 4503599627370496 := by decide
 have hp : 0 ≤ pl double x := by
  rcases Int.lt_or_le (pl double x) 0 with h0 | h0
  ·exfalso
   have : wo double x < 9007199254740992 * U := by
    unfold wo
    obtain ⟨k, hk⟩ : ∃ k : Nat, pl double x + k = 0 := ⟨(-(pl double x)).toNat, by omega⟩
    have e : 9007199254740992 * U = sc (9007199254740992 * 2 ^ k) (pl double x) := by
     rw [← sc_up (pl_ge two_d x), hk, sc_int]
    rw [e]
    unfold sc
    refine Nat.mul_lt_mul_of_pos_right ?_ (two_pos _)
    have := two_pos k
    have : 9007199254740992 * 1 ≤ 9007199254740992 * 2 ^ k := Nat.mul_le_mul_left _ this
    omega
   omega
  ·exact h0
 unfold wh wo
 obtain ⟨k, hk⟩ : ∃ k : Nat, pl double x = 0 + (k : Int) := ⟨(pl double x).toNat, by omega⟩
 rw [hk, sc_up (by omega), sc_int, Nat.mul_div_cancel _ U_pos]
end Go.Fl
namespace Go.Fl
open Ieee Go.Ev Go.RowKit Go.Wh
def key (f : Format) (x : Nat) : Int := sg (ng f x) (rg f x)
theorem val_lt (f : Format) {r s : Nat} (h : r < s) : val f r < val f s := by
 have h1 := rung_parts f r
 have h2 := rung_parts f s
 have l1 := mag_lt f r
 have l2 := mag_lt f s
 have g1 := @mag_ge f r
 have g2 := @mag_ge f s
 rw [val_parts, val_parts]
 have hu : up f r ≤ up f s := by
  apply Nat.le_of_not_lt
  intro hc
  have g := g1 (by omega)
  have : (up f s + 1) * f.binade ≤ up f r * f.binade := Nat.mul_le_mul_right _ hc
  rw [Nat.add_mul, Nat.one_mul] at this
  omega
 rcases Nat.eq_or_lt_of_le hu with he | hl
 ·rw [he] at h1 ⊢
  exact Nat.mul_lt_mul_of_pos_right (by omega) (two_pos _)
 ·have g := g2 (by omega)
  calc mag f r * 2 ^ up f r < 2 * f.binade * 2 ^ up f r := Nat.mul_lt_mul_of_pos_right l1 (two_pos _)
   _ = f.binade * 2 ^ (up f r + 1) := by rw [Nat.pow_succ, Nat.mul_comm 2 f.binade, Nat.mul_assoc, Nat.mul_comm 2]
   _ ≤ f.binade * 2 ^ up f s := Nat.mul_le_mul_left _ (Nat.pow_le_pow_right (by decide) hl)
   _ ≤ mag f s * 2 ^ up f s := Nat.mul_le_mul_right _ g
theorem val_zero (f : Format) : val f 0 = 0 := by unfold val; rw [if_pos (binade_pos f)]
theorem cmp_of {a b c d : Int} (h1 : a < b ↔ c < d) (h2 : b < a ↔ d < c) : compare a b = compare c d := by
 rcases Int.lt_trichotomy a b with h | h | h
 ·rw [Int.compare_eq_lt.2 h, Int.compare_eq_lt.2 (h1.1 h)]
 ·have : c = d := by
   have a1 : ¬ c < d := fun x => by have := h1.2 x; omega
   have a2 : ¬ d < c := fun x => by have := h2.2 x; omega
   omega
  rw [Int.compare_eq_eq.2 h, Int.compare_eq_eq.2 this]
 ·rw [Int.compare_eq_gt.2 h, Int.compare_eq_gt.2 (h2.1 h)]
theorem cmp_mono {φ : Nat → Nat} (h0 : φ 0 = 0) (hm : ∀ a b, a < b → φ a < φ b) (s t : Bool) (m n : Nat) : compare (sg s (φ m)) (sg t (φ n)) = compare (sg s m) (sg t n) := by
 have a1 : φ m < φ n ↔ m < n := ⟨fun h => by
  rcases Nat.lt_trichotomy m n with g | g | g
  ·exact g
  ·subst g; omega
  ·have := hm _ _ g; omega, hm _ _⟩
 have a2 : φ n < φ m ↔ n < m := ⟨fun h => by
  rcases Nat.lt_trichotomy m n with g | g | g
  ·have := hm _ _ g; omega
  ·subst g; omega
  ·exact g, hm _ _⟩
 have pm : 0 < φ m ↔ 0 < m := ⟨fun h => by
  rcases Nat.eq_zero_or_pos m with g | g
  ·subst g; omega
  ·exact g, fun h => by have := hm _ _ h; omega⟩
 have pn : 0 < φ n ↔ 0 < n := ⟨fun h => by
  rcases Nat.eq_zero_or_pos n with g | g
  ·subst g; omega
  ·exact g, fun h => by have := hm _ _ h; omega⟩
 refine cmp_of ?_ ?_ <;> (unfold sg; cases s <;> cases t <;> simp only [if_true, Bool.false_eq_true, if_false] <;> omega)
theorem rg_inf {f : Format} {x : Nat} (h1 : fin f x = false) (h2 : isN f x = false) : rg f x = f.infRung := by
 have a := of_decide_eq_false h1
 have b := of_decide_eq_false h2
 omega
theorem cmp_lt {a b : Int} (h : a < b) : compare a b = .lt := Int.compare_eq_lt.2 h
theorem cmp_gt {a b : Int} (h : b < a) : compare a b = .gt := Int.compare_eq_gt.2 h
theorem order_key {f : Format} (t : Two f) {x y : Nat} (hx : isN f x = false) (hy : isN f y = false) : f.order x y = some (compare (key f x) (key f y)) := by
 unfold Format.order key
 cases fx : fin f x <;> cases fy : fin f y
 ·rw [read_infty t fx hx, read_infty t fy hy, rg_inf fx hx, rg_inf fy hy]
  have : 0 < f.infRung := Nat.lt_of_lt_of_le (binade_pos f) t.least.2.2
  show some (compare _ _) = _
  congr 1
  cases ng f x <;> cases ng f y <;> unfold sg <;> simp only [if_true, Bool.false_eq_true, if_false]
  ·rw [Int.compare_eq_eq.2 rfl]; rfl
  ·rw [cmp_gt (by omega)]; rfl
  ·rw [cmp_lt (by omega)]; rfl
  ·rw [Int.compare_eq_eq.2 rfl]; rfl
 ·rw [read_infty t fx hx, read_fin fy, rg_inf fx hx]
  have := of_decide_eq_true fy
  show some (if ng f x = true then Ordering.lt else Ordering.gt) = _
  congr 1
  cases ng f x <;> cases ng f y <;> unfold sg <;> simp only [if_true, Bool.false_eq_true, if_false]
  ·rw [cmp_gt (by omega)]
  ·rw [cmp_gt (by omega)]
  ·rw [cmp_lt (by omega)]
  ·rw [cmp_lt (by omega)]
 ·rw [read_infty t fy hy, read_fin fx, rg_inf fy hy]
  have := of_decide_eq_true fx
  show some (if ng f y = true then Ordering.gt else Ordering.lt) = _
  congr 1
  cases ng f x <;> cases ng f y <;> unfold sg <;> simp only [if_true, Bool.false_eq_true, if_false]
  ·rw [cmp_lt (by omega)]
  ·rw [cmp_gt (by omega)]
  ·rw [cmp_lt (by omega)]
  ·rw [cmp_gt (by omega)]
 ·rw [read_fin fx, read_fin fy, order_num _ _ _ _ _ _ (pl_ge t x) (pl_ge t y)]
  congr 1
  have e1 : sc (mg f x) (pl f x) = sc (val f (rg f x)) f.leastPlace := wo_val t rfl
  have e2 : sc (mg f y) (pl f y) = sc (val f (rg f y)) f.leastPlace := wo_val t rfl
  rw [e1, e2]
  exact cmp_mono (φ := fun r => sc (val f r) f.leastPlace) (by show sc (val f 0) _ = 0; rw [val_zero, sc_zero]) (fun a b h => Nat.mul_lt_mul_of_pos_right (val_lt f h) (two_pos _)) _ _ _ _
def lng (x : Nat) : Nat := double.write (single.read x)
theorem lng_notN {x : Nat} (h : isN single x = false) : isN double (lng x) = false := by
 cases hf : fin single x
 ·exact (longer_inf hf h).2.1
 ·exact fin_notN (longer hf).1
theorem lng_ng {x : Nat} (h : isN single x = false) : ng double (lng x) = ng single x := by
 cases hf : fin single x
 ·exact (longer_inf hf h).2.2
 ·exact (longer hf).2.1
theorem lng_fin {x : Nat} (h : isN single x = false) : fin double (lng x) = fin single x := by
 cases hf : fin single x
 ·exact (longer_inf hf h).1
 ·exact (longer hf).1
theorem lng_order {x y : Nat} (hx : isN single x = false) (hy : isN single y = false) : double.order (lng x) (lng y) = single.order x y := by
 unfold Format.order
 have nx := lng_notN hx
 have ny := lng_notN hy
 have gx := lng_ng hx
 have gy := lng_ng hy
 have lx := lng_fin hx
 have ly := lng_fin hy
 cases fx : fin single x <;> cases fy : fin single y <;> rw [fx] at lx <;> rw [fy] at ly
 ·rw [read_infty two_d lx nx, read_infty two_d ly ny, read_infty two_s fx hx, read_infty two_s fy hy, gx, gy]
 ·rw [read_infty two_d lx nx, read_fin ly, read_infty two_s fx hx, read_fin fy, gx]; rfl
 ·rw [read_fin lx, read_infty two_d ly ny, read_fin fx, read_infty two_s fy hy, gy]; rfl
 ·rw [read_fin lx, read_fin ly, read_fin fx, read_fin fy, order_num _ _ _ _ _ _ (pl_ge two_d _) (pl_ge two_d _), order_num _ _ _ _ _ _ (pl_ge two_s _) (pl_ge two_s _), gx, gy]
  have e1 : sc (mg double (lng x)) (pl double (lng x)) = sc (mg single x) (pl single x) := (longer fx).2.2
  have e2 : sc (mg double (lng y)) (pl double (lng y)) = sc (mg single y) (pl single y) := (longer fy).2.2
  rw [e1, e2]
theorem lng_cmp {x y : Nat} (hx : isN single x = false) (hy : isN single y = false) : compare (key double (lng x)) (key double (lng y)) = compare (key single x) (key single y) := by
 have h := lng_order hx hy
 rw [order_key two_d (lng_notN hx) (lng_notN hy), order_key two_s hx hy] at h
 exact Option.some.inj h
theorem lng_lt {x y : Nat} (hx : isN single x = false) (hy : isN single y = false) : key double (lng x) < key double (lng y) ↔ key single x < key single y := by
 rw [← Int.compare_eq_lt, ← Int.compare_eq_lt, lng_cmp hx hy]
theorem lng_bits {x : Nat} (h : isN single x = false) : lng x < 2 ^ 64 := by
 rcases longer_lt (single.read x) with g | ⟨s, t, g⟩
 ·exact g
 ·have h2 := isN_iff two_s x
  rw [g, h] at h2
  cases h2
theorem lng_back {x : Nat} (hx : x < 2 ^ 32) (h : isN single x = false) : single.write (double.read (lng x)) = x := by
 cases hf : fin single x
 ·obtain ⟨a1, a2, a3⟩ := longer_inf hf h
  rw [show lng x = double.write (single.read x) from rfl, read_infty two_d a1 a2, a3]
  show single.word (ng single x) single.infRung = x
  rw [← rg_inf hf h]
  exact (word_of single (x := x) hx).symm
 ·obtain ⟨a1, a2, a3⟩ := longer hf
  rw [show lng x = double.write (single.read x) from rfl, read_fin a1, a2]
  have e := nearest_exact single (by rw [single_least]; omega) (ng single x) (m := mg double (double.write (single.read x))) (p := pl double (double.write (single.read x))) (pl_ge two_d _) (r := rg single x) (of_decide_eq_true hf) (by
   rw [← wo_val two_s rfl, ← a3]; rfl)
  show single.nearest _ _ _ = x
  rw [e]
  exact (word_of single (x := x) hx).symm
theorem same_word {f : Format} {x : Nat} (hx : x < 2 * f.signWeight) : f.word (ng f x) (rg f x) = x := (word_of f hx).symm
theorem add_neg0 {f : Format} (t : Two f) {x z : Nat} (hx : x < 2 * f.signWeight) (hn : isN f x = false) {j : Int} (hz : f.read z = .number true 0 j) (hj : -4000 ≤ j) : f.add x z = some x := by
 unfold Format.add
 rw [hz]
 cases hf : fin f x
 ·rw [read_infty t hf hn]
  show some (f.word (ng f x) f.infRung) = some x
  rw [← rg_inf hf hn, same_word hx]
 ·rw [read_fin hf]
  show some (f.nearest _ _ _) = some x
  congr 1
  rw [signed_eq, signed_eq]
  have hp := pl_ge t x
  have e0 : sg true (0 * 2 ^ (j - min (pl f x) j).toNat) = 0 := by unfold sg; simp
  rw [e0, Int.add_zero]
  have hk : (pl f x) = min (pl f x) j + ((pl f x - min (pl f x) j).toNat : Nat) := by omega
  have hb : -4000 ≤ min (pl f x) j := by omega
  generalize (pl f x - min (pl f x) j).toNat = k at hk ⊢
  have hv : sc (mg f x * 2 ^ k) (min (pl f x) j) = sc (val f (rg f x)) f.leastPlace := by
   rw [← sc_up hb k, ← hk]
   exact wo_val t rfl
  have hs : (sg (ng f x) (mg f x * 2 ^ k)).natAbs = mg f x * 2 ^ k := by unfold sg; split <;> omega
  have hg : (if sg (ng f x) (mg f x * 2 ^ k) = 0 then ng f x && true else decide (sg (ng f x) (mg f x * 2 ^ k) < 0)) = ng f x := by
   split
   ·exact Bool.and_true _
   ·rename_i h0
    revert h0
    unfold sg
    cases ng f x
    ·simp only [Bool.false_eq_true, if_false]; intro _; exact decide_eq_false (by omega)
    ·simp only [if_true]; intro _; exact decide_eq_true (by omega)
  rw [hs, hg]
  refine (nearest_exact f t.least.1 (ng f x) hb (of_decide_eq_true hf) hv).trans ?_
  exact same_word hx
theorem add_noneR {f : Format} (t : Two f) {x z : Nat} (h : isN f z = true) : f.add x z = none := by
 unfold Format.add
 rw [(sum_nan (.inr (by rw [isN_iff t]; exact h))).1]; rfl
def pickF (f : Format) (neg : Bool) (x y : Nat) : Nat := if key f x < key f y then (if neg = true then x else y) else if key f y < key f x then (if neg = true then y else x) else if ng f x = neg then x else y
theorem key_eq {f : Format} {x y : Nat} (hx : x < 2 * f.signWeight) (hy : y < 2 * f.signWeight) (h : key f x = key f y) : x = y ∨ (rg f x = 0 ∧ rg f y = 0) := by
 unfold key sg at h
 by_cases h0 : rg f x = 0 ∧ rg f y = 0
 ·exact .inr h0
 ·left
  have h1 : ng f x = ng f y ∧ rg f x = rg f y := by
   revert h
   cases ng f x <;> cases ng f y <;> simp only [if_true, Bool.false_eq_true, if_false] <;> intro h
   ·exact ⟨trivial, by omega⟩
   ·exfalso; omega
   ·exfalso; omega
   ·exact ⟨trivial, by omega⟩
  rw [← same_word hx, ← same_word hy, h1.1, h1.2]
theorem pick_lng {neg : Bool} {x y : Nat} (hx : isN single x = false) (hy : isN single y = false) : pickF double neg (lng x) (lng y) = lng (pickF single neg x y) := by
 unfold pickF
 simp only [lng_lt hx hy, lng_lt hy hx, lng_ng hx]
 split
 ·split <;> rfl
 ·split
  ·split <;> rfl
  ·split <;> rfl
end Go.Fl
namespace Go.Ev
open Go.RowKit Go.Fl
section
variable {P : Program} {G : List (Nat × SV)} {f : FuncId} {fn : Func} {e : Array Value → Sem Value}
def libNaN : Nat := 0x7FF8000000000001
noncomputable def pickS (neg : Bool) : Spec := guarded fun
 | [.f .f64 x, .f .f64 y] => some (!isN Ieee.double x && !isN Ieee.double y && decide (x < 2 ^ 64) && decide (y < 2 ^ 64), .f .f64 (pickF Ieee.double neg x y))
 | _ => none
noncomputable def pickN (neg : Bool) : Spec := guarded fun
 | [.nan .f64, .nan .f64] => some (true, .f .f64 libNaN)
 | [.nan .f64, .f .f64 y] => some (true, .f .f64 (if (FloatKind.f64.decode y == .infinity neg) = true then FloatKind.f64.encode (.infinity neg) else libNaN))
 | [.f .f64 x, .nan .f64] => some (true, .f .f64 (if (FloatKind.f64.decode x == .infinity neg) = true then FloatKind.f64.encode (.infinity neg) else libNaN))
 | _ => none
theorem key_inf {x : Nat} (h : isN Ieee.double x = false) (hx : x < 2 ^ 64) {neg : Bool} : (Ieee.double.read x == .infinity neg) = true ↔ x = Ieee.double.word neg Ieee.double.infRung := by
 cases hf : fin Ieee.double x
 ·rw [read_infty two_d hf h]
  have e := rg_inf hf h
  have w := same_word (f := Ieee.double) (x := x) hx
  rw [e] at w
  constructor
  ·intro g
   have : ng Ieee.double x = neg := by simpa using g
   rw [← this, w]
  ·intro g
   have h2 := (word_mod Ieee.double neg (inf_lt Ieee.double)).2
   rw [← g] at h2
   have : ng Ieee.double x = neg := h2
   rw [this]; exact beq_self_eq_true _
 ·rw [read_fin hf]
  constructor
  ·intro g; simp at g
  ·intro g
   have h2 := (word_mod Ieee.double neg (inf_lt Ieee.double)).1
   rw [← g] at h2
   have h3 := of_decide_eq_true hf
   have h4 : rg Ieee.double x = Ieee.double.infRung := h2
   omega
theorem key_infw (neg : Bool) : key Ieee.double (Ieee.double.word neg Ieee.double.infRung) = sg neg Ieee.double.infRung := by
 unfold key
 obtain ⟨h1, h2⟩ := word_mod Ieee.double neg (inf_lt Ieee.double)
 rw [show ng Ieee.double (Ieee.double.word neg Ieee.double.infRung) = neg from h2, show rg Ieee.double (Ieee.double.word neg Ieee.double.infRung) = Ieee.double.infRung from h1]
theorem rg_le {x : Nat} (h : isN Ieee.double x = false) : rg Ieee.double x ≤ Ieee.double.infRung := by
 have := of_decide_eq_false h; omega
def isM (neg : Bool) (x y : Nat) : Bool := FloatKind.f64.decode x == .infinity neg || FloatKind.f64.decode y == .infinity neg
theorem pick_num {neg : Bool} {win : Ordering} (hw : win = if neg = true then .lt else .gt) {x y : Nat} (hx : isN Ieee.double x = false) (hy : isN Ieee.double y = false) (bx : x < 2 ^ 64) (bY : y < 2 ^ 64) :
  (if isM neg x y = true then FloatKind.f64.encode (.infinity neg)
   else if ((FloatKind.f64.decode x).isNaN || (FloatKind.f64.decode y).isNaN) = true then 0x7FF8000000000001
   else if ((FloatKind.f64.decode x).isZero && (FloatKind.f64.decode y).isZero) = true then (if ((FloatKind.f64.decode x).neg == neg) = true then x else y)
   else if ((FloatKind.f64.decode x).order (FloatKind.f64.decode y) == some win) = true then x else y) = pickF Ieee.double neg x y := by
 have rx := rg_le hx
 have ry := rg_le hy
 have kI := key_infw neg
 have ordr := order_key two_d hx hy
 have hpos : 0 < Ieee.double.infRung := by decide
 have nx : (FloatKind.f64.decode x).isNaN = false := (isN_iff two_d x).trans hx
 have ny : (FloatKind.f64.decode y).isNaN = false := (isN_iff two_d y).trans hy
 have kx : key Ieee.double x = sg (ng Ieee.double x) (rg Ieee.double x) := rfl
 have ky : key Ieee.double y = sg (ng Ieee.double y) (rg Ieee.double y) := rfl
 have negx : (FloatKind.f64.decode x).neg = ng Ieee.double x := by
  show (Ieee.double.read x).neg = _
  cases hf : fin Ieee.double x
  ·rw [read_infty two_d hf hx]; rfl
  ·rw [read_fin hf]; rfl
 have zer : ∀ z, isN Ieee.double z = false → (FloatKind.f64.decode z).isZero = decide (rg Ieee.double z = 0) := by
  intro z hz
  show (Ieee.double.read z).isZero = _
  cases hf : fin Ieee.double z
  ·have e := rg_inf hf hz
   rw [read_infty two_d hf hz, e]
   exact (decide_eq_false (by omega)).symm
  ·rw [read_fin hf]
   have e0 : mg Ieee.double z = 0 ↔ rg Ieee.double z = 0 := by
    unfold mg mag
    have := binade_pos Ieee.double
    split
    ·exact Iff.rfl
    ·constructor <;> intro h <;> omega
   by_cases h0 : rg Ieee.double z = 0
   ·rw [e0.2 h0]; exact (decide_eq_true h0).symm
   ·have : mg Ieee.double z ≠ 0 := fun h => h0 (e0.1 h)
    rw [decide_eq_false h0]
    unfold Ieee.Datum.isZero
    split
    ·rename_i g; simp only [Ieee.Datum.number.injEq] at g; exact absurd g.2.1 this
    ·rfl
 cases hM : isM neg x y
 ·rw [if_neg (by decide), nx, ny, zer x hx, zer y hy, negx]
  rw [if_neg (by decide)]
  have e : (FloatKind.f64.decode x).order (FloatKind.f64.decode y) = some (compare (key Ieee.double x) (key Ieee.double y)) := ordr
  rw [e]
  subst hw
  unfold pickF
  rcases Int.lt_trichotomy (key Ieee.double x) (key Ieee.double y) with h | h | h
  ·rw [if_pos h, cmp_lt h]
   have : (decide (rg Ieee.double x = 0) && decide (rg Ieee.double y = 0)) = false := by
    by_cases h1 : rg Ieee.double x = 0
    ·have : rg Ieee.double y ≠ 0 := by
      intro h2
      rw [kx, ky, h1, h2] at h
      unfold sg at h
      revert h
      split <;> split <;> simp
     rw [decide_eq_false this, Bool.and_false]
    ·rw [decide_eq_false h1, Bool.false_and]
   rw [this]
   cases neg <;> rfl
  ·have n1 : ¬ key Ieee.double x < key Ieee.double y := by omega
   have n2 : ¬ key Ieee.double y < key Ieee.double x := by omega
   rw [if_neg n1, if_neg n2, Int.compare_eq_eq.2 h]
   rcases key_eq (f := Ieee.double) bx bY h with rfl | ⟨h1, h2⟩
   ·simp only [ite_self]
   ·rw [decide_eq_true h1, decide_eq_true h2]
    simp
  ·have n1 : ¬ key Ieee.double x < key Ieee.double y := by omega
   rw [if_neg n1, if_pos h, cmp_gt h]
   have : (decide (rg Ieee.double x = 0) && decide (rg Ieee.double y = 0)) = false := by
    by_cases h1 : rg Ieee.double x = 0
    ·have : rg Ieee.double y ≠ 0 := by
      intro h2
      rw [kx, ky, h1, h2] at h
      unfold sg at h
      revert h
      split <;> split <;> simp
     rw [decide_eq_false this, Bool.and_false]
    ·rw [decide_eq_false h1, Bool.false_and]
   rw [this]
   cases neg <;> rfl
 ·rw [if_pos rfl]
  show Ieee.double.word neg Ieee.double.infRung = _
  unfold isM at hM
  rw [Bool.or_eq_true] at hM
  have cases2 : x = Ieee.double.word neg Ieee.double.infRung ∨ y = Ieee.double.word neg Ieee.double.infRung := hM.imp (key_inf hx bx).1 (key_inf hy bY).1
  unfold pickF
  rcases cases2 with h | h
  ·have k1 : key Ieee.double x = sg neg Ieee.double.infRung := by rw [h]; exact kI
   have kn : ng Ieee.double x = neg := by rw [h]; exact (word_mod Ieee.double neg (inf_lt Ieee.double)).2
   rw [← h]
   by_cases c1 : key Ieee.double x < key Ieee.double y
   ·rw [if_pos c1]
    rw [k1, ky] at c1
    cases neg
    ·exfalso
     revert c1
     unfold sg
     cases ng Ieee.double y <;> simp only [if_true, Bool.false_eq_true, if_false] <;> intro hl <;> omega
    ·rfl
   ·rw [if_neg c1]
    by_cases c2 : key Ieee.double y < key Ieee.double x
    ·rw [if_pos c2]
     rw [k1, ky] at c2
     cases neg
     ·rfl
     ·exfalso
      revert c2
      unfold sg
      cases ng Ieee.double y <;> simp only [if_true, Bool.false_eq_true, if_false] <;> intro hl <;> omega
    ·rw [if_neg c2, if_pos kn]
  ·have k1 : key Ieee.double y = sg neg Ieee.double.infRung := by rw [h]; exact kI
   rw [← h]
   by_cases c1 : key Ieee.double x < key Ieee.double y
   ·rw [if_pos c1]
    rw [k1, kx] at c1
    cases neg
    ·rfl
    ·exfalso
     revert c1
     unfold sg
     cases ng Ieee.double x <;> simp only [if_true, Bool.false_eq_true, if_false] <;> intro hl <;> omega
   ·rw [if_neg c1]
    by_cases c2 : key Ieee.double y < key Ieee.double x
    ·rw [if_pos c2]
     rw [k1, kx] at c2
     cases neg
     ·exfalso
      revert c2
      unfold sg
      cases ng Ieee.double x <;> simp only [if_true, Bool.false_eq_true, if_false] <;> intro hl <;> omega
     ·rfl
    ·rw [if_neg c2]
     have he : key Ieee.double x = key Ieee.double y := by omega
     rcases key_eq (f := Ieee.double) bx bY he with g | ⟨_, h2⟩
     ·rw [g, ite_self]
     ·exfalso
      rw [ky, h2] at k1
      revert k1
      unfold sg
      cases neg <;> cases ng Ieee.double y <;> simp only [if_true, Bool.false_eq_true, if_false] <;> intro hl <;> omega
theorem pick_ok {neg : Bool} {win : Ordering} {name : String} (hw : win = if neg = true then .lt else .gt) (x : ExtF P f (Extern.MathDim.pick name neg win)) : Sound P G f (pickS neg) := by
 refine Sound.of_ptG fun ds d hd => ?_
 split at hd
 ·rename_i a b
  simp only [Option.some.injEq, Prod.mk.injEq, Bool.and_eq_true, Bool.not_eq_true', decide_eq_true_eq] at hd
  obtain ⟨⟨⟨⟨h1, h2⟩, h3⟩, h4⟩, rfl⟩ := hd
  refine x.pt fun w args hl => ?_
  simp only [lie, lies] at hl
  obtain ⟨v, t, rfl, rfl, v2, t2, rfl, rfl, rfl⟩ := hl
  refine ⟨_, w, rfl, Below.refl _ _, ?_⟩
  simp only [lies]
  congr 1
  exact pick_num hw h1 h2 h3 h4
 ·cases hd
theorem inf_nan {x : Nat} (h : (FloatKind.f64.decode x).isNaN = true) {neg : Bool} : (FloatKind.f64.decode x == .infinity neg) = false := by
 cases hd : FloatKind.f64.decode x <;> rw [hd] at h <;> first | rfl | (cases h)
theorem pickN_ok {neg : Bool} {win : Ordering} {name : String} (x : ExtF P f (Extern.MathDim.pick name neg win)) : Sound P G f (pickN neg) := by
 refine Sound.of_ptG fun ds d hd => ?_
 split at hd
 ·simp only [Option.some.injEq, Prod.mk.injEq] at hd
  obtain ⟨_, rfl⟩ := hd
  refine x.pt fun w args hl => ?_
  simp only [lie, lies] at hl
  obtain ⟨v, t, rfl, ⟨a, rfl, ha⟩, v2, t2, rfl, ⟨b, rfl, hb⟩, rfl⟩ := hl
  refine ⟨_, w, rfl, Below.refl _ _, ?_⟩
  simp only [lies, inf_nan ha.1, inf_nan hb.1, ha.1]
  rfl
 ·rename_i y
  simp only [Option.some.injEq, Prod.mk.injEq] at hd
  obtain ⟨_, rfl⟩ := hd
  refine x.pt fun w args hl => ?_
  simp only [lie, lies] at hl
  obtain ⟨v, t, rfl, ⟨a, rfl, ha⟩, v2, t2, rfl, rfl, rfl⟩ := hl
  refine ⟨_, w, rfl, Below.refl _ _, ?_⟩
  simp only [lies, inf_nan ha.1, ha.1, Bool.false_or, Bool.true_or, if_true]
  rfl
 ·rename_i y
  simp only [Option.some.injEq, Prod.mk.injEq] at hd
  obtain ⟨_, rfl⟩ := hd
  refine x.pt fun w args hl => ?_
  simp only [lie, lies] at hl
  obtain ⟨v, t, rfl, rfl, v2, t2, rfl, ⟨a, rfl, ha⟩, rfl⟩ := hl
  refine ⟨_, w, rfl, Below.refl _ _, ?_⟩
  simp only [lies, inf_nan ha.1, ha.1, Bool.or_false, Bool.or_true, if_true]
  rfl
 ·cases hd
end
end Go.Ev
namespace Go.Fl
open Ieee Go.Ev Go.RowKit Go.Wh
def gtwo (F : List D → Option (Bool × Bool × D × D)) : Ev.Spec := fun ds K => match F ds with
 | some (g, b, d, e) => if g = true then (if b = true then K d else K e) else none
 | none => none
theorem Sound.of_gtwo {P : Program} {G : List (Nat × SV)} {f : FuncId} {F : List D → Option (Bool × Bool × D × D)} (h : ∀ ds b d e, F ds = some (true, b, d, e) → Pt P G f ds (if b = true then d else e)) : Sound P G f (gtwo F) := by
 intro ds K r hK
 unfold gtwo at hK
 split at hK
 ·rename_i g b d e hF
  split at hK
  ·rename_i hg
   subst hg
   have := h ds b d e hF
   split at hK
   ·rename_i hb
    exact ⟨d, hK, by rw [if_pos hb] at this; exact this⟩
   ·rename_i hb
    exact ⟨e, hK, by rw [if_neg hb] at this; exact this⟩
  ·cases hK
 ·cases hK
theorem Pt.weak {P : Program} {G : List (Nat × SV)} {f : FuncId} {ds : List D} {d d' : D} (h : Pt P G f ds d) (hd : ∀ own w v, lies own w d v → lies own w d' v) : Pt P G f ds d' := fun w args hG hl => by
 rcases h w args hG hl with ⟨v, w', h1, h2, h3⟩ | ⟨h1, h2⟩
 ·exact .inl ⟨v, w', h1, h2, hd _ _ _ h3⟩
 ·exact .inr ⟨h1, Calls.mono h2 fun e w' ⟨v, he, hb, hv⟩ => ⟨v, he, hb, hd _ _ _ hv⟩⟩
def fmW (w : Int) : Format := if w = 32 then single else double
def wOK (w : Int) : Bool := w == 32 || w == 64
def fiW (w : Int) (a : BitVec 64) : Bool := w == 64 || a >>> 32 == 0#64
def maW (w : Int) (l : List (BitVec 64)) : Bool := wOK w && l.all (fiW w)
def inF (w : Int) (a : BitVec 64) : Bool := wOK w && fiW w a
def noW (w : Int) (a : BitVec 64) : Bool := isN (fmW w) a.toNat
def wdW (w : Int) (a : BitVec 64) : Nat := if w = 32 then lng a.toNat else a.toNat
def keW (w : Int) (a : BitVec 64) : Int := key (fmW w) a.toNat
theorem two_fm (w : Int) : Two (fmW w) := by
 unfold fmW
 split
 ·exact two_s
 ·exact two_d
theorem wOK_cases {w : Int} (h : wOK w = true) : w = 32 ∨ w = 64 := by simpa [wOK] using h
theorem w3264 (w : Int) : (w == 32) = true → (w == 64) = false := by
 intro h
 have : w = 32 := by simpa using h
 subst this; decide
theorem inF_cases {w : Int} {a : BitVec 64} (h : inF w a = true) : (w = 32 ∧ a.toNat < 4294967296) ∨ w = 64 := by
 unfold inF at h
 rw [Bool.and_eq_true] at h
 rcases wOK_cases h.1 with rfl | rfl
 ·left
  refine ⟨rfl, ?_⟩
  have h2 := h.2
  unfold fiW at h2
  have h3 : (a >>> 32 == 0#64) = true := h2
  have h4 : a >>> 32 = 0#64 := by simpa using h3
  have h5 := congrArg BitVec.toNat h4
  rw [BitVec.toNat_ushiftRight, Nat.shiftRight_eq_div_pow] at h5
  have : (0#64 : BitVec 64).toNat = 0 := rfl
  omega
 ·exact .inr rfl
theorem fi32 {a : BitVec 64} (h : a.toNat < 4294967296) : fiW 32 a = true := by
 unfold fiW
 have : a >>> 32 = 0#64 := by
  apply BitVec.eq_of_toNat_eq
  rw [BitVec.toNat_ushiftRight, Nat.shiftRight_eq_div_pow]
  show _ = 0
  omega
 rw [this]; rfl
theorem in32 {a : BitVec 64} (h : a.toNat < 4294967296) : inF 32 a = true := by
 unfold inF; rw [fi32 h]; rfl
theorem in_lt {w : Int} {a : BitVec 64} (h : inF w a = true) : a.toNat < 2 * (fmW w).signWeight := by
 rcases inF_cases h with ⟨rfl, h'⟩ | rfl
 ·exact h'
 ·exact a.isLt
theorem wd_lt {w : Int} {a : BitVec 64} (h : inF w a = true) (hn : noW w a = false) : wdW w a < 2 ^ 64 := by
 rcases inF_cases h with ⟨rfl, h⟩ | rfl
 ·exact lng_bits (x := a.toNat) hn
 ·exact a.isLt
theorem wd_notN {w : Int} {a : BitVec 64} (h : inF w a = true) (hn : noW w a = false) : isN double (wdW w a) = false := by
 rcases inF_cases h with ⟨rfl, h⟩ | rfl
 ·exact lng_notN (x := a.toNat) hn
 ·exact hn
theorem wd_order {w : Int} {a b : BitVec 64} (ha : inF w a = true) (hb : inF w b = true) (na : noW w a = false) (nb : noW w b = false) : double.order (wdW w a) (wdW w b) = some (compare (keW w a) (keW w b)) := by
 rcases inF_cases ha with ⟨rfl, h⟩ | rfl
 ·exact (lng_order na nb).trans (order_key two_s na nb)
 ·exact order_key two_d na nb
def sgW (w : Int) : BitVec 64 := if w = 32 then 2147483648#64 else 9223372036854775808#64
def naW (w : Int) : BitVec 64 := if w = 32 then 2143289344#64 else 9221120237041090560#64
def leW (w : Int) (a b : BitVec 64) : Bool := !noW w a && !noW w b && decide (keW w a < keW w b)
def eqW (w : Int) (a b : BitVec 64) : Bool := !noW w a && !noW w b && (keW w a == keW w b)
theorem ord_lt {w : Int} {a b : BitVec 64} (ha : inF w a = true) (hb : inF w b = true) (na : noW w a = false) (nb : noW w b = false) : (double.order (wdW w a) (wdW w b) == some .lt) = leW w a b := by
 rw [wd_order ha hb na nb]
 unfold leW
 rw [na, nb]
 rcases Int.lt_trichotomy (keW w a) (keW w b) with h | h | h
 ·rw [cmp_lt h, decide_eq_true h]; rfl
 ·rw [Int.compare_eq_eq.2 h, decide_eq_false (by omega)]; rfl
 ·rw [cmp_gt h, decide_eq_false (by omega)]; rfl
theorem ord_gt {w : Int} {a b : BitVec 64} (ha : inF w a = true) (hb : inF w b = true) (na : noW w a = false) (nb : noW w b = false) : (double.order (wdW w a) (wdW w b) == some .gt) = leW w b a := by
 rw [wd_order ha hb na nb]
 unfold leW
 rw [na, nb]
 rcases Int.lt_trichotomy (keW w a) (keW w b) with h | h | h
 ·rw [cmp_lt h, decide_eq_false (by omega)]; rfl
 ·rw [Int.compare_eq_eq.2 h, decide_eq_false (by omega)]; rfl
 ·rw [cmp_gt h, decide_eq_true h]; rfl
theorem ord_eq {w : Int} {a b : BitVec 64} (ha : inF w a = true) (hb : inF w b = true) (na : noW w a = false) (nb : noW w b = false) : (double.order (wdW w a) (wdW w b) == some .eq) = eqW w a b := by
 rw [wd_order ha hb na nb]
 unfold eqW
 rw [na, nb]
 have e : ∀ x y : Int, (x == y) = decide (x = y) := fun x y => by cases h : decide (x = y) <;> simp at h ⊢ <;> exact h
 rw [e]
 rcases Int.lt_trichotomy (keW w a) (keW w b) with h | h | h
 ·rw [cmp_lt h, decide_eq_false (by omega)]; rfl
 ·rw [Int.compare_eq_eq.2 h, decide_eq_true h]; rfl
 ·rw [cmp_gt h, decide_eq_false (by omega)]; rfl
def fcmV (L S : Int → BitVec 64 → BitVec 64 → Bool) (o : BitVec 8) (w : Int) (a b : BitVec 64) : Bool :=
 if (o == 17#8) = true then S w a b else if (o == 18#8) = true then !S w a b else if (o == 19#8) = true then L w a b else if (o == 20#8) = true then L w b a
 else if (o == 21#8) = true then L w a b || S w a b else if (o == 22#8) = true then L w b a || S w a b else false
def thE (o : BitVec 8) : Int := if (o == 17#8 || o == 18#8 || o == 19#8 || o == 20#8 || o == 21#8 || o == 22#8) = true then 0 else 2
def fthV (o : BitVec 8) (w : Int) (a b : BitVec 64) : Bool := maW w [a, b] && fcmV leW eqW o w a b
def fthE (o : BitVec 8) (w : Int) (a b : BitVec 64) : Int := if maW w [a, b] = true then thE o else 2
def thT (e l g : Bool) (o : BitVec 8) : Option D :=
 if (o == 17#8) = true then some (.tup [.bool e, .i .i64 0]) else if (o == 18#8) = true then some (.tup [.bool (!e), .i .i64 0]) else if (o == 19#8) = true then some (.tup [.bool l, .i .i64 0])
 else if (o == 20#8) = true then some (.tup [.bool g, .i .i64 0]) else if (o == 21#8) = true then some (.tup [.bool (l || e), .i .i64 0]) else if (o == 22#8) = true then some (.tup [.bool (g || e), .i .i64 0])
 else some (.tup [.bool false, .i .i64 2])
theorem thT_eq (o : BitVec 8) (w : Int) (a b : BitVec 64) {e l g : Bool} (h1 : e = eqW w a b) (h2 : l = leW w a b) (h3 : g = leW w b a) : thT e l g o = some (.tup [.bool (fcmV leW eqW o w a b), .i .i64 (thE o)]) := by
 subst h1 h2 h3
 unfold thT fcmV thE
 generalize (o == 17#8) = c1
 generalize (o == 18#8) = c2
 generalize (o == 19#8) = c3
 generalize (o == 20#8) = c4
 generalize (o == 21#8) = c5
 generalize (o == 22#8) = c6
 cases c1 <;> first | rfl | skip
 cases c2 <;> first | rfl | skip
 cases c3 <;> first | rfl | skip
 cases c4 <;> first | rfl | skip
 cases c5 <;> first | rfl | skip
 cases c6 <;> rfl
theorem maW2 {w : Int} {a b : BitVec 64} (h : maW w [a, b] = true) : inF w a = true ∧ inF w b = true := by
 unfold maW at h
 simp only [List.all_cons, List.all_nil, Bool.and_true, Bool.and_eq_true] at h
 unfold inF
 rw [h.1, h.2.1, h.2.2]
 exact ⟨rfl, rfl⟩
theorem maW1 {w : Int} {a : BitVec 64} : maW w [a] = inF w a := by
 unfold maW inF
 simp only [List.all_cons, List.all_nil, Bool.and_true]
end Go.Fl
namespace Go.Fl
open Ieee Go.Ev Go.RowKit Go.Wh
theorem write_lt {f : Format} (t : Two f) (d : Datum) : f.write d < 2 * f.signWeight := by
 cases d with
 | number s m e =>
  show f.nearest s m e < _
  unfold Format.nearest
  split
  ·exact word_lt f s (two_pos _)
  ·exact word_lt f s (Nat.lt_of_le_of_lt (Nat.min_le_right _ _) (inf_lt f))
 | infinity s => exact word_lt f s (inf_lt f)
 | nan s u =>
  refine word_lt f s ?_
  have h : u % f.binade < f.binade := Nat.mod_lt _ (binade_pos f)
  have e : f.infRung + f.binade ≤ f.signWeight := by rcases t.is with rfl | rfl <;> decide
  omega
def arN (o : BitVec 8) (f : Format) (x y : Nat) : Option Nat := if (o == 1#8) = true then f.add x y else if (o == 2#8) = true then f.sub x y else if (o == 3#8) = true then f.mul x y else f.div x y
theorem arN_lt {f : Format} (t : Two f) (o : BitVec 8) {x y r : Nat} (h : arN o f x y = some r) : r < 2 * f.signWeight := by
 unfold arN Format.add Format.sub Format.mul Format.div at h
 have go : ∀ {q : Option Datum}, q.map f.write = some r → r < 2 * f.signWeight := fun {q} hq => by
  cases q with
  | none => cases hq
  | some d => cases hq; exact write_lt t d
 split at h
 ·exact go h
 ·split at h
  ·exact go h
  ·split at h
   ·exact go h
   ·exact go h
theorem arN_nanL {f : Format} (t : Two f) (o : BitVec 8) {x y : Nat} (h : isN f x = true) : arN o f x y = none := by
 have hx : (f.read x).isNaN = true := by rw [isN_iff t]; exact h
 unfold arN Format.add Format.sub Format.mul Format.div
 rw [(sum_nan (.inl hx)).1, (sum_nan (.inl hx)).1, (sum_nan (.inl hx)).2.1, (sum_nan (.inl hx)).2.2]
 split <;> first | rfl | (split <;> first | rfl | (split <;> rfl))
theorem arN_nanR {f : Format} (t : Two f) (o : BitVec 8) {x y : Nat} (h : isN f y = true) : arN o f x y = none := by
 have hy : (f.read y).isNaN = true := by rw [isN_iff t]; exact h
 unfold arN Format.add Format.sub Format.mul Format.div
 rw [(sum_nan (.inr hy)).1, (sum_nan (.inr (opp_nan hy))).1, (sum_nan (.inr hy)).2.1, (sum_nan (.inr hy)).2.2]
 split <;> first | rfl | (split <;> first | rfl | (split <;> rfl))
def clO (w : Int) (r : Option Nat) : BitVec 64 := match r with
 | some r => if isN (fmW w) r = true then naW w else BitVec.ofNat 64 r
 | none => naW w
def arW (o : BitVec 8) (w : Int) (a b : BitVec 64) : BitVec 64 := clO w (arN o (fmW w) a.toNat b.toNat)
def lsW (neg : Bool) (w : Int) (a b : BitVec 64) : BitVec 64 := if (noW w a || noW w b) = true then naW w else if (keW w a == keW w b) = true then (if neg = true then a ||| b else a &&& b) else if (decide (keW w a < keW w b) == neg) = true then a else b
theorem ofN_toNat (a : BitVec 64) : BitVec.ofNat 64 a.toNat = a := by apply BitVec.eq_of_toNat_eq; rw [BitVec.toNat_ofNat, Nat.mod_eq_of_lt a.isLt]
theorem pick_ls {neg : Bool} {w : Int} {a b : BitVec 64} (ha : inF w a = true) (hb : inF w b = true) (na : noW w a = false) (nb : noW w b = false) : BitVec.ofNat 64 (pickF (fmW w) neg a.toNat b.toNat) = lsW neg w a b := by
 unfold pickF lsW
 rw [na, nb]
 have ka : key (fmW w) a.toNat = keW w a := rfl
 have kb : key (fmW w) b.toNat = keW w b := rfl
 rw [ka, kb]
 rcases Int.lt_trichotomy (keW w a) (keW w b) with h | h | h
 ·have e1 : (keW w a == keW w b) = false := by simpa using (by omega : keW w a ≠ keW w b)
  rw [if_pos h, e1, decide_eq_true h]
  cases neg
  ·exact ofN_toNat b
  ·exact ofN_toNat a
 ·have n1 : ¬ keW w a < keW w b := by omega
  have n2 : ¬ keW w b < keW w a := by omega
  rw [if_neg n1, if_neg n2, h, beq_self_eq_true]
  simp only [Bool.or_self, Bool.false_eq_true, if_false, if_true]
  rcases key_eq (in_lt ha) (in_lt hb) (h : key (fmW w) a.toNat = key (fmW w) b.toNat) with g | ⟨g1, g2⟩
  ·have e : a = b := BitVec.eq_of_toNat_eq g
   subst e
   rw [ite_self, ofN_toNat, BitVec.or_self, BitVec.and_self, ite_self]
  ·have za : a = 0#64 ∧ ng (fmW w) a.toNat = false ∨ a = sgW w ∧ ng (fmW w) a.toNat = true := by
    have w1 := same_word (in_lt ha)
    rw [g1] at w1
    cases hs : ng (fmW w) a.toNat
    ·left
     refine ⟨?_, rfl⟩
     rw [hs] at w1
     exact BitVec.eq_of_toNat_eq w1.symm
    ·right
     refine ⟨?_, rfl⟩
     rw [hs] at w1
     refine BitVec.eq_of_toNat_eq (w1.symm.trans ?_)
     rcases inF_cases ha with ⟨rfl, _⟩ | rfl <;> decide
   have zb : b = 0#64 ∨ b = sgW w := by
    have w1 := same_word (in_lt hb)
    rw [g2] at w1
    cases hs : ng (fmW w) b.toNat
    ·left
     rw [hs] at w1
     exact BitVec.eq_of_toNat_eq w1.symm
    ·right
     rw [hs] at w1
     refine BitVec.eq_of_toNat_eq (w1.symm.trans ?_)
     rcases inF_cases ha with ⟨rfl, _⟩ | rfl <;> decide
   rcases za with ⟨ea, hs⟩ | ⟨ea, hs⟩
   ·rw [hs]
    cases neg
    ·rw [if_pos rfl, ofN_toNat, ea]; simp
    ·rw [if_neg (by decide), ofN_toNat, ea]; simp
   ·rw [hs]
    cases neg
    ·rw [if_neg (by decide), ofN_toNat, ea]
     rcases zb with eb | eb <;> rw [eb] <;> simp
    ·rw [if_pos rfl, ofN_toNat, ea]
     rcases zb with eb | eb <;> rw [eb] <;> simp
 ·have n1 : ¬ keW w a < keW w b := by omega
  have e1 : (keW w a == keW w b) = false := by simpa using (by omega : keW w a ≠ keW w b)
  rw [if_neg n1, if_pos h, e1, decide_eq_false n1]
  cases neg
  ·exact ofN_toNat a
  ·exact ofN_toNat b
def shO (x : Nat) : Bool := isN double x || fin single (single.write (double.read x)) || !fin double x
def bsC (w : Int) (x : Nat) : Bool := if w = 32 then shO x else decide (x < 2 ^ 64)
def bsV (w : Int) (x : Nat) : BitVec 64 := if isN double x = true then naW w else if w = 32 then BitVec.ofNat 64 (single.write (double.read x)) else BitVec.ofNat 64 x
theorem bs_pick {neg : Bool} {w : Int} {a b : BitVec 64} (ha : inF w a = true) (hb : inF w b = true) (na : noW w a = false) (nb : noW w b = false) :
  pickF double neg (wdW w a) (wdW w b) < 2 ^ 64 ∧ isN double (pickF double neg (wdW w a) (wdW w b)) = false ∧ bsC w (pickF double neg (wdW w a) (wdW w b)) = true ∧ bsV w (pickF double neg (wdW w a) (wdW w b)) = lsW neg w a b := by
 rw [← pick_ls ha hb na nb]
 have pc : ∀ (f : Format) (x y : Nat), pickF f neg x y = x ∨ pickF f neg x y = y := fun f x y => by
  unfold pickF
  split
  ·split
   ·exact .inl rfl
   ·exact .inr rfl
  ·split
   ·split
    ·exact .inr rfl
    ·exact .inl rfl
   ·split
    ·exact .inl rfl
    ·exact .inr rfl
 rcases inF_cases ha with ⟨rfl, la⟩ | rfl
 ·rcases inF_cases hb with ⟨_, lb⟩ | hc
  ·have e : pickF double neg (wdW 32 a) (wdW 32 b) = lng (pickF single neg a.toNat b.toNat) := pick_lng na nb
   rw [e]
   have hp : isN single (pickF single neg a.toNat b.toNat) = false ∧ pickF single neg a.toNat b.toNat < 2 ^ 32 := by
    rcases pc single a.toNat b.toNat with g | g <;> rw [g]
    ·exact ⟨na, la⟩
    ·exact ⟨nb, lb⟩
   show _ ∧ _ ∧ _ ∧ bsV 32 (lng (pickF single neg a.toNat b.toNat)) = BitVec.ofNat 64 (pickF single neg a.toNat b.toNat)
   generalize pickF single neg a.toNat b.toNat = z at hp ⊢
   obtain ⟨h1, h2⟩ := hp
   refine ⟨lng_bits h1, lng_notN h1, ?_, ?_⟩
   ·show (isN double (lng z) || fin single (single.write (double.read (lng z))) || !fin double (lng z)) = true
    rw [lng_back h2 h1, lng_fin h1]
    cases fin single z <;> cases isN double (lng z) <;> rfl
   ·unfold bsV
    rw [lng_notN h1, if_pos rfl, lng_back h2 h1]; rfl
  ·cases hc
 ·have e : pickF double neg (wdW 64 a) (wdW 64 b) = pickF double neg a.toNat b.toNat := rfl
  rw [e]
  have hp : isN double (pickF double neg a.toNat b.toNat) = false ∧ pickF double neg a.toNat b.toNat < 2 ^ 64 := by
   rcases pc double a.toNat b.toNat with g | g <;> rw [g]
   ·exact ⟨na, a.isLt⟩
   ·exact ⟨nb, b.isLt⟩
  show _ ∧ _ ∧ _ ∧ bsV 64 (pickF double neg a.toNat b.toNat) = BitVec.ofNat 64 (pickF double neg a.toNat b.toNat)
  generalize pickF double neg a.toNat b.toNat = z at hp ⊢
  obtain ⟨h1, h2⟩ := hp
  refine ⟨h2, h1, decide_eq_true h2, ?_⟩
  unfold bsV
  rw [h1]; rfl
def twW (o : BitVec 8) (w : Int) (a b : BitVec 64) : BitVec 64 :=
 if (o == 1#8 || o == 2#8 || o == 3#8 || o == 4#8) = true then arW o w a b else if (o == 5#8) = true then lsW true w a b else if (o == 6#8) = true then lsW false w a b
 else if (o == 7#8) = true then a &&& ~~~(sgW w) ||| b &&& sgW w else if (o == 8#8) = true then (if leW w b a = true then b else a) else if (o == 9#8) = true then (if leW w a b = true then b else a) else 0#64
def twE (o : BitVec 8) : Int := if (o == 1#8 || o == 2#8 || o == 3#8 || o == 4#8 || o == 5#8 || o == 6#8 || o == 7#8 || o == 8#8 || o == 9#8) = true then 0 else 2
def ftwV (o : BitVec 8) (w : Int) (a b : BitVec 64) : BitVec 64 := if maW w [a, b] = true then twW o w a b else 0#64
def ftwE (o : BitVec 8) (w : Int) (a b : BitVec 64) : Int := if maW w [a, b] = true then twE o else 2
end Go.Fl

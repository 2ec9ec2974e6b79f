/-
  Part of the proof; what its functions and lemmas say stands in the text.
-/
import Derived.Test.YtimaanpcglbnpaaDoorFlD
import Derived.Test.YtimaanpcglbnpaaDoorWhA
set_option linter.unusedSimpArgs false
set_option linter.unusedVariables false
/-!
Floats: the nearest one, by halves between rungs; it keeps the order.
-/
namespace Go.Fl
open Ieee Go.Ev Go.RowKit Go.Wh

/-- The half between a rung and the next one, twice. -/
def midR (f : Format) (t : Nat) : Nat := (val f t + val f (t + 1)) * 2 ^ (f.leastPlace + 4000).toNat
/-- Not beyond the half after that rung. -/
def Qr (f : Format) (t v : Nat) : Prop := 2 * v < midR f t ∨ (2 * v = midR f t ∧ t % 2 = 0)
theorem Qr_down {f : Format} {t v v' : Nat} (h : v ≤ v') (hq : Qr f t v') : Qr f t v := by
  unfold Qr at hq ⊢
  rcases hq with h1 | ⟨h1, h2⟩
  · left; omega
  · rcases Nat.lt_or_eq_of_le h with g | g
    · left; omega
    · right; exact ⟨by omega, h2⟩
theorem near_q (f : Format) (hl : -4000 ≤ f.leastPlace) (hd : 1 ≤ f.fractionBits) (s : Bool) (m : Nat) {p : Int} (hp : -4000 ≤ p) : ∃ r, r ≤ f.infRung ∧ f.nearest s m p = f.word s r ∧ ∀ t, t < f.infRung → (r ≤ t ↔ Qr f t (sc m p)) := by
  have hS : 0 < 2 ^ (f.leastPlace + 4000).toNat := two_pos _
  by_cases hm : m = 0
  · refine ⟨0, Nat.zero_le _, ?_, fun t _ => ⟨fun _ => ?_, fun _ => Nat.zero_le _⟩⟩
    · unfold Format.nearest
      rw [if_pos hm]
    · left
      rw [hm, sc_zero]
      unfold midR
      refine Nat.mul_pos ?_ hS
      have := val_lt f (show t < t + 1 by omega)
      omega
  · obtain ⟨T, n, k, e1, e2, e3, e4⟩ := nearest_parts f hl s hm hp
    refine ⟨_, Nat.min_le_right _ _, e1, ?_⟩
    intro t ht
    have hmin : (min (T * f.binade + Toward.even.cut s n k) f.infRung ≤ t) ↔ T * f.binade + Toward.even.cut s n k ≤ t := by omega
    rw [hmin]
    have hB : f.binade = 2 ^ f.fractionBits := rfl
    have hK : 0 < 2 ^ k := two_pos k
    have hT : 0 < 2 ^ T := two_pos T
    have hdm := Nat.div_add_mod n (2 ^ k)
    have hrm : n % 2 ^ k < 2 ^ k := Nat.mod_lt _ hK
    have hq1 : T ≠ 0 → f.binade ≤ n / 2 ^ k := fun hT => by
      rw [Nat.le_div_iff_mul_le hK, hB, ← Nat.pow_add]
      exact e4 hT
    have hq2 : n / 2 ^ k < 2 * f.binade := by
      rw [Nat.div_lt_iff_lt_mul hK, hB, ← Nat.pow_succ', ← Nat.pow_add]
      exact e3
    obtain ⟨q, hq⟩ : ∃ q, n / 2 ^ k = q := ⟨_, rfl⟩
    obtain ⟨u, hu⟩ : ∃ u, n % 2 ^ k = u := ⟨_, rfl⟩
    rw [hq] at hq1 hq2
    rw [hq, hu] at hdm
    rw [hu] at hrm
    have v0 : val f (T * f.binade + q) = q * 2 ^ T := val_kept f (by omega) hq1
    have v1 : val f (T * f.binade + q + 1) = (q + 1) * 2 ^ T := by
      rw [Nat.add_assoc]
      exact val_kept f (by omega) (fun h => Nat.le_succ_of_le (hq1 h))
    obtain ⟨S, hSd⟩ : ∃ S, 2 ^ (f.leastPlace + 4000).toNat = S := ⟨_, rfl⟩
    rw [hSd] at hS e2
    have hmid : ∀ t, midR f t = (val f t + val f (t + 1)) * S := fun t => by unfold midR; rw [hSd]
    have low : q * 2 ^ T * S ≤ sc m p := by
      refine Nat.le_of_mul_le_mul_right ?_ hK
      rw [← e2, ← hdm]
      have : q * 2 ^ T * S * 2 ^ k = 2 ^ k * q * (2 ^ T * S) := by ac_rfl
      rw [this]
      exact Nat.mul_le_mul_right _ (Nat.le_add_right _ _)
    have high : sc m p < (q + 1) * 2 ^ T * S := by
      refine Nat.lt_of_mul_lt_mul_right (a := 2 ^ k) ?_
      rw [← e2, ← hdm]
      have : (q + 1) * 2 ^ T * S * 2 ^ k = (2 ^ k * q + 2 ^ k) * (2 ^ T * S) := by
        rw [show 2 ^ k * q + 2 ^ k = 2 ^ k * (q + 1) by rw [Nat.mul_succ]]
        ac_rfl
      rw [this]
      exact Nat.mul_lt_mul_of_pos_right (by omega) (Nat.mul_pos hT hS)
    rw [cut_more, hq, hu]
    have hml : (moreT .even s q u (2 ^ k)).toNat ≤ 1 := Bool.toNat_le _
    rcases Nat.lt_trichotomy t (T * f.binade + q) with ht1 | ht1 | ht1
    · refine ⟨fun h => by omega, fun h => ?_⟩
      exfalso
      have a1 := val_lt f (show t < t + 1 by omega)
      have a2 := val_mono f (show t + 1 ≤ T * f.binade + q by omega)
      rw [v0] at a2
      have a3 : midR f t < 2 * (q * 2 ^ T * S) := by
        rw [hmid, ← Nat.mul_assoc]
        exact Nat.mul_lt_mul_of_pos_right (by omega) hS
      unfold Qr at h
      omega
    · subst ht1
      have hpar : (T * f.binade + q) % 2 = q % 2 := by
        have : f.binade = 2 ^ (f.fractionBits - 1) * 2 := by rw [hB, ← Nat.pow_succ]; congr 1; omega
        rw [this, ← Nat.mul_assoc]
        omega
      unfold Qr
      rw [hpar, hmid, v0, v1]
      have c1 : 2 * sc m p * 2 ^ k = (2 * (2 ^ k * q) + 2 * u) * (2 ^ T * S) := by
        rw [Nat.mul_assoc, ← e2, ← hdm, ← Nat.mul_assoc, Nat.mul_add]
      have c2 : (q * 2 ^ T + (q + 1) * 2 ^ T) * S * 2 ^ k = (2 * (2 ^ k * q) + 2 ^ k) * (2 ^ T * S) := by
        rw [← Nat.add_mul]
        have : (q + (q + 1)) * 2 ^ T * S * 2 ^ k = (2 ^ k * (q + (q + 1))) * (2 ^ T * S) := by ac_rfl
        rw [this]
        congr 1
        rw [Nat.mul_add, Nat.mul_succ]; omega
      have hTS : 0 < 2 ^ T * S := Nat.mul_pos hT hS
      have d1 : 2 * sc m p < (q * 2 ^ T + (q + 1) * 2 ^ T) * S ↔ 2 * u < 2 ^ k := by
        rw [← Nat.mul_lt_mul_right hK, c1, c2, Nat.mul_lt_mul_right hTS]
        omega
      have d2 : 2 * sc m p = (q * 2 ^ T + (q + 1) * 2 ^ T) * S ↔ 2 * u = 2 ^ k := by
        constructor
        · intro h
          have h2 : 2 * sc m p * 2 ^ k = (q * 2 ^ T + (q + 1) * 2 ^ T) * S * 2 ^ k := by rw [h]
          rw [c1, c2] at h2
          have := Nat.eq_of_mul_eq_mul_right hTS h2
          omega
        · intro h
          refine Nat.eq_of_mul_eq_mul_right hK ?_
          rw [c1, c2, h]
      rw [d1, d2]
      unfold moreT
      simp only
      constructor
      · intro h
        have hz : (decide (2 ^ k < 2 * u) || decide (2 ^ k = 2 * u) && decide (q % 2 = 1)) = false := by
          cases hb : (decide (2 ^ k < 2 * u) || decide (2 ^ k = 2 * u) && decide (q % 2 = 1))
          · rfl
          · rw [hb] at h
            have h' : T * f.binade + (q + 1) ≤ T * f.binade + q := h
            omega
        simp only [Bool.or_eq_false_iff, Bool.and_eq_false_iff, decide_eq_false_iff_not] at hz
        omega
      · intro h
        have hz : (decide (2 ^ k < 2 * u) || decide (2 ^ k = 2 * u) && decide (q % 2 = 1)) = false := by
          simp only [Bool.or_eq_false_iff, Bool.and_eq_false_iff, decide_eq_false_iff_not]
          omega
        rw [hz]
        exact Nat.le_refl _
    · refine ⟨fun _ => ?_, fun _ => by omega⟩
      left
      have a1 := val_lt f (show t < t + 1 by omega)
      have a2 := val_mono f (show T * f.binade + q + 1 ≤ t by omega)
      rw [v1] at a2
      have a3 : 2 * ((q + 1) * 2 ^ T * S) < midR f t := by
        rw [hmid, ← Nat.mul_assoc]
        exact Nat.mul_lt_mul_of_pos_right (by omega) hS
      omega
/-- What is greater has no lesser nearest one. -/
theorem near_mono (f : Format) (hl : -4000 ≤ f.leastPlace) (hd : 1 ≤ f.fractionBits) (s s' : Bool) (m m' : Nat) {p p' : Int} (hp : -4000 ≤ p) (hp' : -4000 ≤ p') (h : sc m p ≤ sc m' p') : ∃ r r', r ≤ r' ∧ r' ≤ f.infRung ∧ f.nearest s m p = f.word s r ∧ f.nearest s' m' p' = f.word s' r' := by
  obtain ⟨r, a1, a2, a3⟩ := near_q f hl hd s m hp
  obtain ⟨r', b1, b2, b3⟩ := near_q f hl hd s' m' hp'
  refine ⟨r, r', ?_, b1, a2, b2⟩
  rcases Nat.lt_or_ge r' f.infRung with g | g
  · exact (a3 r' g).2 (Qr_down h ((b3 r' g).1 (Nat.le_refl _)))
  · omega
end Go.Fl
/-!
Floats: roots keep the order.
-/
namespace Go.Fl
open Ieee Go.Ev Go.RowKit Go.Wh

theorem rootFrom_ok (n : Nat) : ∀ (todo root : Nat), root * root ≤ n → n < (root + 2 ^ todo) * (root + 2 ^ todo) → Datum.rootFrom n todo root * Datum.rootFrom n todo root ≤ n ∧ n < (Datum.rootFrom n todo root + 1) * (Datum.rootFrom n todo root + 1)
  | 0, root, h1, h2 => by unfold Datum.rootFrom; rw [Nat.pow_zero] at h2; exact ⟨h1, h2⟩
  | todo + 1, root, h1, h2 => by
    unfold Datum.rootFrom
    simp only [Nat.one_shiftLeft]
    split
    · rename_i h
      refine rootFrom_ok n todo _ h ?_
      have e : root + 2 ^ todo + 2 ^ todo = root + 2 ^ (todo + 1) := by rw [Nat.pow_succ]; omega
      rw [e]; exact h2
    · rename_i h
      exact rootFrom_ok n todo root h1 (by omega)
theorem root_of (n : Nat) : ∃ w, Datum.rootFrom n (n.log2 / 2 + 1) 0 = w ∧ w * w ≤ n ∧ n < (w + 1) * (w + 1) := by
  refine ⟨_, rfl, rootFrom_ok n _ 0 (Nat.zero_le _) ?_⟩
  have h : n < 2 ^ (n.log2 + 1) := Nat.lt_log2_self
  rw [Nat.zero_add, ← Nat.pow_add]
  exact Nat.lt_of_lt_of_le h (Nat.pow_le_pow_right (by decide) (by omega))
/-- Not beyond that half, of the root of what is worth x. -/
def Qs (f : Format) (t x : Nat) : Prop := 4 * x * U < midR f t * midR f t ∨ (4 * x * U = midR f t * midR f t ∧ t % 2 = 0)
theorem Qs_down {f : Format} {t x x' : Nat} (h : x ≤ x') (hq : Qs f t x') : Qs f t x := by
  have h2 : 4 * x * U ≤ 4 * x' * U := Nat.mul_le_mul_right _ (Nat.mul_le_mul_left _ h)
  unfold Qs at hq ⊢
  rcases hq with h1 | ⟨h1, h3⟩
  · left; omega
  · rcases Nat.lt_or_eq_of_le h2 with g | g
    · left; omega
    · right; exact ⟨by omega, h3⟩
theorem val_next (f : Format) (t : Nat) : val f t = mag f t * 2 ^ up f t ∧ val f (t + 1) = (mag f t + 1) * 2 ^ up f t := by
  refine ⟨val_parts f t, ?_⟩
  have hr := rung_parts f t
  have hm := mag_lt f t
  have e : t + 1 = up f t * f.binade + (mag f t + 1) := by omega
  conv => lhs; rw [e]
  exact val_kept f (by omega) (fun h => Nat.le_succ_of_le (mag_ge h))
theorem sq_lt {a b : Nat} : a * a < b * b ↔ a < b := by
  constructor
  · intro h
    rcases Nat.lt_or_ge a b with g | g
    · exact g
    · have := Nat.mul_le_mul g g; omega
  · intro h; exact Nat.mul_lt_mul'' h h
theorem root_q {f : Format} (hl : -4000 ≤ f.leastPlace) {n w : Nat} (hn : 2 ^ (2 * (f.fractionBits + 2)) ≤ n) (h1 : w * w ≤ n) (h2 : n < (w + 1) * (w + 1)) {h : Int} (hh : -3999 ≤ h) (t : Nat) :
    Qr f t (sc (2 * w + (w * w != n).toNat) (h - 1)) ↔ (4 * n * (2 ^ (h + 4000).toNat * 2 ^ (h + 4000).toNat) < midR f t * midR f t ∨ (4 * n * (2 ^ (h + 4000).toNat * 2 ^ (h + 4000).toNat) = midR f t * midR f t ∧ t % 2 = 0)) := by
  obtain ⟨W, hW⟩ : ∃ W, 2 ^ (h + 4000).toNat = W := ⟨_, rfl⟩
  have hWp : 0 < W := by rw [← hW]; exact two_pos _
  have e1 : ∀ P, 2 * sc P (h - 1) = P * W := fun P => by
    unfold sc
    rw [← hW, ← Nat.mul_assoc, Nat.mul_comm 2 P, Nat.mul_assoc, ← Nat.pow_succ']
    congr 2
    omega
  obtain ⟨g1, g2⟩ := val_next f t
  have hm := mag_lt f t
  obtain ⟨m, hmm⟩ : ∃ m, mag f t = m := ⟨_, rfl⟩
  obtain ⟨j, hj⟩ : ∃ j, up f t = j := ⟨_, rfl⟩
  rw [hmm, hj] at g1 g2
  rw [hmm] at hm
  have eM : midR f t = (2 * m + 1) * 2 ^ (j + (f.leastPlace + 4000).toNat) := by
    unfold midR
    rw [g1, g2, ← Nat.add_mul, Nat.pow_add, Nat.mul_assoc]
    congr 1
    omega
  unfold Qr
  rw [e1, hW, eM]
  have hsb : (w * w != n).toNat ≤ 1 := Bool.toNat_le _
  rcases Nat.lt_or_ge ((h + 4000).toNat) (j + (f.leastPlace + 4000).toNat) with c | c
  · -- the half is a whole number of units
    obtain ⟨k, hk⟩ : ∃ k, j + (f.leastPlace + 4000).toNat = (h + 4000).toNat + 1 + k := ⟨j + (f.leastPlace + 4000).toNat - ((h + 4000).toNat + 1), by omega⟩
    have eW : (2 * m + 1) * 2 ^ (j + (f.leastPlace + 4000).toNat) = 2 * ((2 * m + 1) * 2 ^ k) * W := by
      rw [hk, Nat.pow_add, Nat.pow_succ, hW]
      ac_rfl
    rw [eW]
    generalize (2 * m + 1) * 2 ^ k = C
    have s1 : (2 * w + (w * w != n).toNat) * W < 2 * C * W ↔ n < C * C := by
      rw [Nat.mul_lt_mul_right hWp]
      constructor
      · intro hlt
        have : w < C := by omega
        exact Nat.lt_of_lt_of_le h2 (Nat.mul_le_mul this this)
      · intro hlt
        have : w * w < C * C := Nat.lt_of_le_of_lt h1 hlt
        have := sq_lt.1 this
        omega
    have s2 : (2 * w + (w * w != n).toNat) * W = 2 * C * W ↔ n = C * C := by
      constructor
      · intro he
        have he := Nat.eq_of_mul_eq_mul_right hWp he
        cases hb : (w * w != n)
        · rw [hb] at he
          have : w = C := by
            have he' : 2 * w + 0 = 2 * C := he
            omega
          subst this
          have hb' : w * w = n := by simpa using hb
          exact hb'.symm
        · rw [hb] at he
          have he' : 2 * w + 1 = 2 * C := he
          omega
      · intro he
        have h3 : w ≤ C := by
          rcases Nat.lt_or_ge C w with g | g
          · have := Nat.mul_lt_mul'' g g; omega
          · exact g
        have h4 : C < w + 1 := sq_lt.1 (by omega)
        have : w = C := by omega
        subst this
        have hb : (w * w != n) = false := by simpa using he.symm
        rw [hb]; rfl
    have s3 : 4 * n * (W * W) < 2 * C * W * (2 * C * W) ↔ n < C * C := by
      have e : 2 * C * W * (2 * C * W) = 4 * (C * C) * (W * W) := by
        have : 2 * C * W * (2 * C * W) = (2 * 2) * (C * C) * (W * W) := by ac_rfl
        exact this
      rw [e, Nat.mul_lt_mul_right (Nat.mul_pos hWp hWp)]
      omega
    have s4 : 4 * n * (W * W) = 2 * C * W * (2 * C * W) ↔ n = C * C := by
      have e : 2 * C * W * (2 * C * W) = 4 * (C * C) * (W * W) := by
        have : 2 * C * W * (2 * C * W) = (2 * 2) * (C * C) * (W * W) := by ac_rfl
        exact this
      rw [e]
      constructor
      · intro he
        have := Nat.eq_of_mul_eq_mul_right (Nat.mul_pos hWp hWp) he
        omega
      · intro he; rw [he]
    rw [s1, s2, s3, s4]
  · -- the half is far below
    have hB : f.binade = 2 ^ f.fractionBits := rfl
    have up1 : (2 * m + 1) * 2 ^ (j + (f.leastPlace + 4000).toNat) < 2 ^ (f.fractionBits + 2) * W := by
      rw [← hW]
      have a0 : 2 * m + 1 < 2 ^ (f.fractionBits + 2) := by rw [Nat.pow_succ, Nat.pow_succ, ← hB]; omega
      exact Nat.lt_of_lt_of_le (Nat.mul_lt_mul_of_pos_right a0 (two_pos _)) (Nat.mul_le_mul_left _ (Nat.pow_le_pow_right (by decide) c))
    generalize (2 * m + 1) * 2 ^ (j + (f.leastPlace + 4000).toNat) = M at up1
    have hw : 2 ^ (f.fractionBits + 2) ≤ w := by
      have : 2 ^ (f.fractionBits + 2) * 2 ^ (f.fractionBits + 2) < (w + 1) * (w + 1) := by
        rw [← Nat.pow_add]
        exact Nat.lt_of_le_of_lt (Nat.le_trans (Nat.pow_le_pow_right (by decide) (by omega)) hn) h2
      have := sq_lt.1 this
      omega
    have k1 : M < (2 * w + (w * w != n).toNat) * W := Nat.lt_of_lt_of_le up1 (Nat.mul_le_mul_right _ (by omega))
    have k2 : M * M < 4 * n * (W * W) := by
      have a1 : M * M < 2 ^ (f.fractionBits + 2) * W * (2 ^ (f.fractionBits + 2) * W) := Nat.mul_lt_mul'' up1 up1
      have a2 : 2 ^ (f.fractionBits + 2) * W * (2 ^ (f.fractionBits + 2) * W) = 2 ^ (2 * (f.fractionBits + 2)) * (W * W) := by
        rw [Nat.two_mul, Nat.pow_add 2 (f.fractionBits + 2) (f.fractionBits + 2)]; ac_rfl
      have a3 : 2 ^ (2 * (f.fractionBits + 2)) * (W * W) ≤ n * (W * W) := Nat.mul_le_mul_right _ hn
      have a4 : n * (W * W) ≤ 4 * n * (W * W) := Nat.mul_le_mul_right _ (by omega)
      omega
    constructor
    · rintro (h | h) <;> omega
    · rintro (h | h) <;> omega
end Go.Fl
/-!
Floats: what a root is.
-/
namespace Go.Fl
open Ieee Go.Ev Go.RowKit Go.Wh

theorem mg_zero {f : Format} {x : Nat} : mg f x = 0 ↔ rg f x = 0 := by
  unfold mg mag
  have := binade_pos f
  split
  · exact Iff.rfl
  · rename_i h; omega
theorem mid_pos (f : Format) (t : Nat) : 0 < midR f t := by
  unfold midR
  refine Nat.mul_pos ?_ (two_pos _)
  have := val_lt f (show t < t + 1 by omega)
  omega
theorem sqrt_neg {x : Nat} (hn : isN double x = false) (hs : ng double x = true) (h0 : rg double x ≠ 0) : double.sqrt x = none := by
  unfold Format.sqrt
  cases hf : fin double x
  · rw [read_infty two_d hf hn, hs]; rfl
  · rw [read_fin hf, hs]
    unfold Datum.root
    simp only
    rw [if_neg (fun h => h0 (mg_zero.1 h)), if_pos trivial]; rfl
theorem sqrt_rung {x : Nat} (hn : isN double x = false) (hs : ng double x = true → rg double x = 0) : ∃ r, double.sqrt x = some (double.word (ng double x) r) ∧ r ≤ double.infRung ∧ ∀ t, t < double.infRung → (r ≤ t ↔ (fin double x = true ∧ Qs double t (wo double x))) := by
  unfold Format.sqrt
  cases hf : fin double x
  · have e := rg_inf hf hn
    cases hg : ng double x
    · rw [read_infty two_d hf hn, hg]
      exact ⟨double.infRung, rfl, Nat.le_refl _, fun t ht => ⟨fun h => by omega, fun h => by cases h.1⟩⟩
    · have := hs hg
      rw [e] at this
      exact absurd this (by decide)
  · rw [read_fin hf]
    by_cases h0 : rg double x = 0
    · have hm : mg double x = 0 := mg_zero.2 h0
      refine ⟨0, ?_, Nat.zero_le _, fun t _ => ⟨fun _ => ⟨rfl, .inl ?_⟩, fun _ => Nat.zero_le _⟩⟩
      · unfold Datum.root
        simp only
        rw [if_pos hm, hm]
        show some (double.nearest _ 0 _) = _
        unfold Format.nearest
        rw [if_pos rfl]
      · unfold wo
        rw [hm, sc_zero]
        have := mid_pos double t
        have := Nat.mul_pos this this
        omega
    · have hg : ng double x = false := by
        cases h : ng double x
        · rfl
        · exact absurd (hs h) h0
      have hm : mg double x ≠ 0 := fun h => h0 (mg_zero.1 h)
      rw [hg]
      unfold wo
      have hil : -1074 ≤ pl double x := by unfold pl; rw [double_least]; omega
      generalize mg double x = m at hm
      generalize pl double x = i at hil
      unfold Datum.root
      simp only
      rw [if_neg hm]
      simp only [Bool.false_eq_true, if_false]
      obtain ⟨more, hmore⟩ : ∃ more, 2 * (double.fractionBits + 2) - m.log2 + ((i - ((2 * (double.fractionBits + 2) - m.log2 : Nat) : Int)) % 2).toNat = more := ⟨_, rfl⟩
      rw [hmore]
      have hfb : double.fractionBits = 52 := rfl
      have hml : 2 * 54 ≤ m.log2 + more ∧ more ≤ 2 * 54 + 1 := by omega
      obtain ⟨h, hh⟩ : ∃ h : Int, (i - (more : Int)) / 2 = h := ⟨_, rfl⟩
      have he : i - (more : Int) = 2 * h := by omega
      rw [hh]
      obtain ⟨w, hw, w1, w2⟩ := root_of (m <<< more)
      rw [hw]
      have hlm : 2 ^ m.log2 ≤ m := Nat.log2_self_le hm
      have hnn : 2 ^ (2 * (double.fractionBits + 2)) ≤ m <<< more := by
        rw [Nat.shiftLeft_eq]
        refine Nat.le_trans ?_ (Nat.mul_le_mul_right _ hlm)
        rw [← Nat.pow_add]
        exact Nat.pow_le_pow_right (by decide) (by omega)
      obtain ⟨r, a1, a2, a3⟩ := near_q double two_d.least.1 (by decide) false (2 * w + (w * w != m <<< more).toNat) (p := h - 1) (by omega)
      refine ⟨r, ?_, a1, fun t ht => ?_⟩
      · show some (double.nearest false _ _) = _
        rw [a2]
      · rw [a3 t ht, root_q two_d.least.1 hnn w1 w2 (by omega) t]
        have eU : 4 * (m <<< more) * (2 ^ (h + 4000).toNat * 2 ^ (h + 4000).toNat) = 4 * sc m i * U := by
          have hU : ∃ N : Nat, (N : Int) = 4000 ∧ U = 2 ^ N := ⟨(0 + 4000 : Int).toNat, by omega, by unfold U sc; rw [Nat.one_mul]⟩
          obtain ⟨N, hN, hU⟩ := hU
          have e1 : sc m i = m * 2 ^ (i + 4000).toNat := rfl
          rw [hU, e1, Nat.shiftLeft_eq]
          have e2 : 2 ^ more * (2 ^ (h + 4000).toNat * 2 ^ (h + 4000).toNat) = 2 ^ (i + 4000).toNat * 2 ^ N := by
            clear hU
            rw [← Nat.pow_add, ← Nat.pow_add, ← Nat.pow_add]
            refine congrArg (fun z => 2 ^ z) ?_
            omega
          calc 4 * (m * 2 ^ more) * (2 ^ (h + 4000).toNat * 2 ^ (h + 4000).toNat) = 4 * m * (2 ^ more * (2 ^ (h + 4000).toNat * 2 ^ (h + 4000).toNat)) := by ac_rfl
            _ = 4 * m * (2 ^ (i + 4000).toNat * 2 ^ N) := by rw [e2]
            _ = 4 * (m * 2 ^ (i + 4000).toNat) * 2 ^ N := by ac_rfl
        rw [eU]
        exact ⟨fun q => ⟨trivial, q⟩, fun q => q.2⟩
theorem wo_mono {f : Format} (t : Two f) {x y : Nat} (h : rg f x ≤ rg f y) : wo f x ≤ wo f y := by
  rw [wo_val t (rfl : rg f x = rg f x), wo_val t (rfl : rg f y = rg f y)]
  exact Nat.mul_le_mul_right _ (val_mono f h)
theorem fin_mono {f : Format} {x y : Nat} (h : rg f x ≤ rg f y) (hf : fin f y = true) : fin f x = true := by
  have := of_decide_eq_true hf
  exact decide_eq_true (by omega)
/-- A root is of which rung. -/
def sqRg (x : Nat) : Nat := rg double ((double.sqrt x).getD 0)
theorem sqrt_word {x : Nat} (hn : isN double x = false) (hs : ng double x = true → rg double x = 0) : double.sqrt x = some (double.word (ng double x) (sqRg x)) ∧ sqRg x ≤ double.infRung ∧ (rg double x = 0 → sqRg x = 0) ∧ ∀ t, t < double.infRung → (sqRg x ≤ t ↔ (fin double x = true ∧ Qs double t (wo double x))) := by
  obtain ⟨r, h1, h2, h3⟩ := sqrt_rung hn hs
  have e : sqRg x = r := by
    unfold sqRg
    rw [h1]
    exact (word_mod double _ (Nat.lt_of_le_of_lt h2 (inf_lt double))).1
  rw [e]
  refine ⟨h1, h2, fun h0 => ?_, h3⟩
  have hm : mg double x = 0 := mg_zero.2 h0
  have : r ≤ 0 := (h3 0 (by decide)).2 ⟨decide_eq_true (by rw [h0]; decide), .inl (by
    unfold wo
    rw [hm, sc_zero]
    have := mid_pos double 0
    have := Nat.mul_pos this this
    omega)⟩
  omega
theorem sqRg_mono {x y : Nat} (hx : isN double x = false) (sx : ng double x = true → rg double x = 0) (hy : isN double y = false) (sy : ng double y = true → rg double y = 0) (h : rg double x ≤ rg double y) : sqRg x ≤ sqRg y := by
  obtain ⟨_, a2, _, a4⟩ := sqrt_word hx sx
  obtain ⟨_, b2, _, b4⟩ := sqrt_word hy sy
  rcases Nat.lt_or_ge (sqRg y) double.infRung with g | g
  · obtain ⟨c1, c2⟩ := (b4 _ g).1 (Nat.le_refl _)
    exact (a4 _ g).2 ⟨fin_mono h c1, Qs_down (wo_mono two_d h) c2⟩
  · omega
/-! ### A long float made short -/
def shRg (x : Nat) : Nat := rg single (single.write (double.read x))
theorem short_word {x : Nat} (hn : isN double x = false) : single.write (double.read x) = single.word (ng double x) (shRg x) ∧ shRg x ≤ single.infRung ∧ (rg double x = 0 → shRg x = 0) ∧ ∀ t, t < single.infRung → (shRg x ≤ t ↔ (fin double x = true ∧ Qr single t (wo double x))) := by
  have main : ∃ r, single.write (double.read x) = single.word (ng double x) r ∧ r ≤ single.infRung ∧ ∀ t, t < single.infRung → (r ≤ t ↔ (fin double x = true ∧ Qr single t (wo double x))) := by
    cases hf : fin double x
    · rw [read_infty two_d hf hn]
      exact ⟨single.infRung, rfl, Nat.le_refl _, fun t ht => ⟨fun h => by omega, fun h => by cases h.1⟩⟩
    · rw [read_fin hf]
      obtain ⟨r, a1, a2, a3⟩ := near_q single two_s.least.1 (by decide) (ng double x) (mg double x) (pl_ge two_d x)
      exact ⟨r, a2, a1, fun t ht => ⟨fun h => ⟨rfl, (a3 t ht).1 h⟩, fun h => (a3 t ht).2 h.2⟩⟩
  obtain ⟨r, h1, h2, h3⟩ := main
  have e : shRg x = r := by
    unfold shRg
    rw [h1]
    exact (word_mod single _ (Nat.lt_of_le_of_lt h2 (inf_lt single))).1
  rw [e]
  refine ⟨h1, h2, fun h0 => ?_, h3⟩
  have hm : mg double x = 0 := mg_zero.2 h0
  have : r ≤ 0 := (h3 0 (by decide)).2 ⟨decide_eq_true (by rw [h0]; decide), .inl (by
    unfold wo
    rw [hm, sc_zero]
    exact mid_pos single 0)⟩
  omega
theorem shRg_mono {x y : Nat} (hx : isN double x = false) (hy : isN double y = false) (h : rg double x ≤ rg double y) : shRg x ≤ shRg y := by
  obtain ⟨_, a2, _, a4⟩ := short_word hx
  obtain ⟨_, b2, _, b4⟩ := short_word hy
  rcases Nat.lt_or_ge (shRg y) single.infRung with g | g
  · obtain ⟨c1, c2⟩ := (b4 _ g).1 (Nat.le_refl _)
    exact (a4 _ g).2 ⟨fin_mono h c1, Qr_down (wo_mono two_d h) c2⟩
  · omega
end Go.Fl
/-!
Floats: of whole numbers; greater ones make no lesser ones.
-/
namespace Go.Fl
open Ieee Go.Ev Go.RowKit Go.Wh

theorem fm_ok (w : Int) : -4000 ≤ (fmW w).leastPlace ∧ 1 ≤ (fmW w).fractionBits := by
  unfold fmW
  split <;> decide
theorem near_sign (f : Format) (hl : -4000 ≤ f.leastPlace) (m : Nat) {p : Int} (hp : -4000 ≤ p) : ∃ r, r ≤ f.infRung ∧ ∀ s, f.nearest s m p = f.word s r := by
  by_cases hm : m = 0
  · refine ⟨0, Nat.zero_le _, fun s => ?_⟩
    unfold Format.nearest
    rw [if_pos hm]
  · refine ⟨_, Nat.min_le_right ((max (p + m.log2 - f.fractionBits) f.leastPlace - f.leastPlace).toNat * f.binade + Toward.even.cut false (m <<< (p - max (p + m.log2 - f.fractionBits) f.leastPlace).toNat) (max (p + m.log2 - f.fractionBits) f.leastPlace - p).toNat) f.infRung, fun s => ?_⟩
    unfold Format.nearest
    rw [if_neg hm]
    simp only
    rw [cut_sign s false]
/-- The rung of a whole number. -/
def rI (w : Int) (k : Nat) : Nat := rg (fmW w) ((fmW w).nearest false k 0)
theorem rI_word (w : Int) (k : Nat) : rI w k ≤ (fmW w).infRung ∧ ∀ s, (fmW w).nearest s k 0 = (fmW w).word s (rI w k) := by
  obtain ⟨r, h1, h2⟩ := near_sign (fmW w) (fm_ok w).1 k (p := 0) (by decide)
  have e : rI w k = r := by
    unfold rI
    rw [h2]
    exact (word_mod _ false (Nat.lt_of_le_of_lt h1 (inf_lt _))).1
  rw [e]
  exact ⟨h1, h2⟩
theorem rI_mono (w : Int) {k k' : Nat} (h : k ≤ k') : rI w k ≤ rI w k' := by
  obtain ⟨r, r', h1, h2, h3, h4⟩ := near_mono (fmW w) (fm_ok w).1 (fm_ok w).2 false false k k' (p := 0) (p' := 0) (by decide) (by decide) (Nat.mul_le_mul_right _ h)
  have e : rI w k = r := by
    unfold rI
    rw [h3]
    exact (word_mod _ false (Nat.lt_of_le_of_lt (Nat.le_trans h1 h2) (inf_lt _))).1
  have e' : rI w k' = r' := by
    unfold rI
    rw [h4]
    exact (word_mod _ false (Nat.lt_of_le_of_lt h2 (inf_lt _))).1
  rw [e, e']; exact h1
theorem rI_zero (w : Int) : rI w 0 = 0 := by
  unfold rI Format.nearest
  rw [if_pos rfl]
  unfold rg
  rw [word_false]
  exact Nat.zero_mod _
def flI (w n : Int) : BitVec 64 := BitVec.ofNat 64 ((fmW w).nearest (n < 0) n.natAbs 0)
theorem fm_64 (w : Int) {x : Nat} (h : x < 2 * (fmW w).signWeight) : x < 2 ^ 64 := by
  refine Nat.lt_of_lt_of_le h ?_
  unfold fmW
  split <;> decide
theorem flI_facts {w : Int} (hw : wOK w = true) (n : Int) : inF w (flI w n) = true ∧ noW w (flI w n) = false ∧ keW w (flI w n) = sg (decide (n < 0)) (rI w n.natAbs) := by
  obtain ⟨h1, h2⟩ := rI_word w n.natAbs
  have hlt := Nat.lt_of_le_of_lt h1 (inf_lt (fmW w))
  have e : flI w n = BitVec.ofNat 64 ((fmW w).word (decide (n < 0)) (rI w n.natAbs)) := by unfold flI; rw [h2]
  have hl := word_lt (fmW w) (decide (n < 0)) hlt
  obtain ⟨v1, v2⟩ := word_mod (fmW w) (decide (n < 0)) hlt
  have et : (flI w n).toNat = (fmW w).word (decide (n < 0)) (rI w n.natAbs) := by rw [e, BitVec.toNat_ofNat, Nat.mod_eq_of_lt (fm_64 w hl)]
  refine ⟨by rw [in_iff hw, et]; exact hl, ?_, ?_⟩
  · refine decide_eq_false ?_
    show ¬ _ < (flI w n).toNat % (fmW w).signWeight
    rw [et, v1]; omega
  · unfold keW key
    rw [et]
    rw [show ng (fmW w) ((fmW w).word (decide (n < 0)) (rI w n.natAbs)) = decide (n < 0) from v2, show rg (fmW w) ((fmW w).word (decide (n < 0)) (rI w n.natAbs)) = rI w n.natAbs from v1]
theorem flI_mono {w : Int} (hw : wOK w = true) {m n : Int} (h : m ≤ n) : keW w (flI w m) ≤ keW w (flI w n) := by
  rw [(flI_facts hw m).2.2, (flI_facts hw n).2.2]
  unfold sg
  by_cases hm : m < 0
  · by_cases hn : n < 0
    · have := rI_mono w (show n.natAbs ≤ m.natAbs by omega)
      rw [if_pos (decide_eq_true hm), if_pos (decide_eq_true hn)]; omega
    · rw [if_pos (decide_eq_true hm), if_neg (by simpa using hn)]; omega
  · have hn : ¬ n < 0 := by omega
    have := rI_mono w (show m.natAbs ≤ n.natAbs by omega)
    rw [if_neg (by simpa using hm), if_neg (by simpa using hn)]; omega
/-- With a sign: the same with its sign's bit. -/
theorem flI_neg {w : Int} (hw : wOK w = true) {n : Int} (hn : n < 0) : flI w n = flI w (n.natAbs : Int) ||| sgW w := by
  obtain ⟨h1, h2⟩ := rI_word w n.natAbs
  have hlt := Nat.lt_of_le_of_lt h1 (inf_lt (fmW w))
  have e1 : flI w n = BitVec.ofNat 64 ((fmW w).word true (rI w n.natAbs)) := by unfold flI; rw [h2, decide_eq_true hn]
  have e2 : flI w (n.natAbs : Int) = BitVec.ofNat 64 (rI w n.natAbs) := by
    unfold flI
    have : decide ((n.natAbs : Int) < 0) = false := decide_eq_false (by omega)
    rw [this, Int.natAbs_natCast, h2, word_false]
  rw [e1, e2]
  have hi : inF w (sgW w) = true := by rcases wOK_cases hw with rfl | rfl <;> decide
  have hg : ng (fmW w) (sgW w).toNat = true := by rcases wOK_cases hw with rfl | rfl <;> decide
  have h := sg_or hi hlt
  rw [BitVec.and_self, hg] at h
  rw [BitVec.or_comm]; exact h.symm
theorem one_sg {w : Int} (hw : wOK w = true) : 1#64 <<< (BitVec.ofInt 64 (IntKind.i64.wrap (w - 1))).toNat = sgW w := by
  rcases wOK_cases hw with rfl | rfl <;> decide
/-! ### Cut, and held -/
/-- What a float is worth, cut, without its sign; B the bound. -/
def clB' (f : Format) (B x : Nat) : Nat := if (fin f x && decide (wh f x ≤ B)) = true then wh f x else B
theorem clB_le (f : Format) (B x : Nat) : clB' f B x ≤ B := by
  unfold clB'
  split
  · rename_i h
    rw [Bool.and_eq_true] at h
    exact of_decide_eq_true h.2
  · exact Nat.le_refl _
theorem wh_mono {f : Format} (t : Two f) {x y : Nat} (h : rg f x ≤ rg f y) : wh f x ≤ wh f y := Nat.div_le_div_right (wo_mono t h)
theorem clB_mono {f : Format} (t : Two f) {B x y : Nat} (h : rg f x ≤ rg f y) : clB' f B x ≤ clB' f B y := by
  unfold clB'
  have hm := wh_mono t h
  by_cases hy : (fin f y && decide (wh f y ≤ B)) = true
  · rw [if_pos hy]
    rw [Bool.and_eq_true, decide_eq_true_eq] at hy
    rw [if_pos (by rw [Bool.and_eq_true, decide_eq_true_eq]; exact ⟨fin_mono h hy.1, by omega⟩)]
    exact hm
  · rw [if_neg hy]
    split
    · rename_i hx
      rw [Bool.and_eq_true, decide_eq_true_eq] at hx
      exact hx.2
    · exact Nat.le_refl _
theorem clB_zero {f : Format} (t : Two f) {B x : Nat} (h : rg f x = 0) : clB' f B x = 0 := by
  have hw : wh f x = 0 := by
    unfold wh wo
    rw [mg_zero.2 h, sc_zero, Nat.zero_div]
  unfold clB'
  rw [hw]
  split
  · rfl
  · rename_i hc
    apply Classical.byContradiction
    intro _
    apply hc
    rw [Bool.and_eq_true, decide_eq_true_eq]
    refine ⟨decide_eq_true ?_, Nat.zero_le _⟩
    rw [h]
    rcases t.is with rfl | rfl <;> decide
theorem cut_rises {f : Format} (t : Two f) (B : Bool → Nat) {x y : Nat} (h : key f x ≤ key f y) : sg (ng f x) (clB' f (B (ng f x)) x) ≤ sg (ng f y) (clB' f (B (ng f y)) y) := by
  unfold key at h
  unfold sg at h ⊢
  cases hx : ng f x <;> cases hy : ng f y <;> rw [hx, hy] at h
  · simp only [Bool.false_eq_true, if_false] at h ⊢
    have := clB_mono (B := B false) t (show rg f x ≤ rg f y by omega)
    omega
  · simp only [Bool.false_eq_true, if_false, if_true] at h ⊢
    have h1 := clB_zero (f := f) t (B := B false) (x := x) (by omega)
    have h2 := clB_zero (f := f) t (B := B true) (x := y) (by omega)
    omega
  · simp only [Bool.false_eq_true, if_false, if_true] at h ⊢
    omega
  · simp only [if_true] at h ⊢
    have := clB_mono (B := B true) t (show rg f y ≤ rg f x by omega)
    omega
end Go.Fl

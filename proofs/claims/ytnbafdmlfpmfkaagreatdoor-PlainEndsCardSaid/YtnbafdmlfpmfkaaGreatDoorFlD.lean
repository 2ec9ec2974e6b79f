/-
  Part of the proof; what its functions and lemmas say stands in the text.
-/
import Derived.Test.YtnbafdmlfpmfkaaGreatDoorFlC
import Derived.Test.YtnbafdmlfpmfkaaGreatDoorWhB
set_option linter.unusedSimpArgs false
set_option linter.unusedVariables false
namespace Go.Fl
open Ieee Go.Ev Go.RowKit Go.Wh
theorem val_kept (f : Format) {T k : Nat} (h1 : k ≤ 2 * f.binade) (h2 : T ≠ 0 → f.binade ≤ k) : val f (T * f.binade + k) = k * 2 ^ T := by
 rcases Nat.lt_or_ge k (2 * f.binade) with h | h
 ·obtain ⟨a1, a2⟩ := of_parts f (L := T) h h2
  rw [val_parts, a1, a2]
 ·have e : k = 2 * f.binade := by omega
  have hp := binade_pos f
  obtain ⟨a1, a2⟩ := of_parts f (L := T + 1) (kept := f.binade) (by omega) (fun _ => Nat.le_refl _)
  have e2 : T * f.binade + k = (T + 1) * f.binade + f.binade := by rw [e, Nat.add_mul]; omega
  rw [e2, val_parts, a1, a2, e, Nat.pow_succ, Nat.mul_comm 2, Nat.mul_assoc, Nat.mul_comm 2]
theorem nearest_parts (f : Format) (hl : -4000 ≤ f.leastPlace) (s : Bool) {m : Nat} (hm : m ≠ 0) {p : Int} (hp : -4000 ≤ p) :
  ∃ T n k, f.nearest s m p = f.word s (min (T * f.binade + Toward.even.cut s n k) f.infRung) ∧ n * (2 ^ T * 2 ^ (f.leastPlace + 4000).toNat) = sc m p * 2 ^ k ∧ n < 2 ^ (f.fractionBits + 1 + k) ∧ (T ≠ 0 → 2 ^ (f.fractionBits + k) ≤ n) := by
 obtain ⟨last, hlast⟩ : ∃ last, max (p + m.log2 - f.fractionBits) f.leastPlace = last := ⟨_, rfl⟩
 have hlm : 2 ^ m.log2 ≤ m := Nat.log2_self_le hm
 have hlm2 : m < 2 ^ (m.log2 + 1) := Nat.lt_log2_self
 refine ⟨(last - f.leastPlace).toNat, m <<< (p - last).toNat, (last - p).toNat, ?_, ?_, ?_, ?_⟩
 ·unfold Format.nearest
  rw [if_neg hm]
  simp only [hlast]
 ·rw [Nat.shiftLeft_eq]
  unfold sc
  rw [← Nat.pow_add, Nat.mul_assoc, ← Nat.pow_add, Nat.mul_assoc, ← Nat.pow_add]
  congr 2
  omega
 ·rw [Nat.shiftLeft_eq]
  calc m * 2 ^ (p - last).toNat < 2 ^ (m.log2 + 1) * 2 ^ (p - last).toNat := Nat.mul_lt_mul_of_pos_right hlm2 (two_pos _)
   _ = 2 ^ (m.log2 + 1 + (p - last).toNat) := by rw [← Nat.pow_add]
   _ ≤ 2 ^ (f.fractionBits + 1 + (last - p).toNat) := Nat.pow_le_pow_right (by decide) (by omega)
 ·intro hT
  rw [Nat.shiftLeft_eq]
  calc 2 ^ (f.fractionBits + (last - p).toNat) ≤ 2 ^ (m.log2 + (p - last).toNat) := Nat.pow_le_pow_right (by decide) (by omega)
   _ = 2 ^ m.log2 * 2 ^ (p - last).toNat := by rw [← Nat.pow_add]
   _ ≤ m * 2 ^ (p - last).toNat := Nat.mul_le_mul_right _ hlm
theorem nearest_le (f : Format) (hl : -4000 ≤ f.leastPlace) (s : Bool) {m : Nat} {p : Int} (hp : -4000 ≤ p) {t : Nat} (h : sc m p ≤ sc (val f t) f.leastPlace) : ∃ r, r ≤ t ∧ r ≤ f.infRung ∧ f.nearest s m p = f.word s r := by
 by_cases hm : m = 0
 ·refine ⟨0, Nat.zero_le _, Nat.zero_le _, ?_⟩
  unfold Format.nearest
  rw [if_pos hm]
 ·obtain ⟨T, n, k, e1, e2, e3, e4⟩ := nearest_parts f hl s hm hp
  refine ⟨_, ?_, Nat.min_le_right _ _, e1⟩
  refine Nat.le_trans (Nat.min_le_left _ _) ?_
  have hB : f.binade = 2 ^ f.fractionBits := rfl
  have k1 : Toward.even.cut s n k ≤ 2 * f.binade := by
   rw [hB, ← Nat.pow_succ']
   exact kept_bound s e3
  have hS : 0 < 2 ^ (f.leastPlace + 4000).toNat := two_pos _
  have hK : 0 < 2 ^ k := two_pos k
  have hX : sc m p * 2 ^ k ≤ val f t * 2 ^ (f.leastPlace + 4000).toNat * 2 ^ k := Nat.mul_le_mul_right _ h
  rw [← e2] at hX
  have hdm := Nat.div_add_mod n (2 ^ k)
  have hq1 : T ≠ 0 → f.binade ≤ n / 2 ^ k := fun hT => by
   rw [Nat.le_div_iff_mul_le hK, hB, ← Nat.pow_add]
   exact e4 hT
  rw [cut_more] at k1 ⊢
  cases hmore : moreT .even s (n / 2 ^ k) (n % 2 ^ k) (2 ^ k)
  ·rw [hmore] at k1
   have kq : n / 2 ^ k ≤ 2 * f.binade := k1
   show T * f.binade + n / 2 ^ k ≤ t
   refine val_le f ?_
   rw [val_kept f kq hq1]
   have h5 : n / 2 ^ k * 2 ^ k ≤ n := Nat.div_mul_le_self _ _
   have h6 : n / 2 ^ k * 2 ^ k * (2 ^ T * 2 ^ (f.leastPlace + 4000).toNat) ≤ val f t * 2 ^ (f.leastPlace + 4000).toNat * 2 ^ k := Nat.le_trans (Nat.mul_le_mul_right _ h5) hX
   have h7 : n / 2 ^ k * 2 ^ T * (2 ^ (f.leastPlace + 4000).toNat * 2 ^ k) ≤ val f t * (2 ^ (f.leastPlace + 4000).toNat * 2 ^ k) := by
    have a1 : n / 2 ^ k * 2 ^ k * (2 ^ T * 2 ^ (f.leastPlace + 4000).toNat) = n / 2 ^ k * 2 ^ T * (2 ^ (f.leastPlace + 4000).toNat * 2 ^ k) := by ac_rfl
    rw [a1, Nat.mul_assoc (val f t)] at h6
    exact h6
   exact Nat.le_of_mul_le_mul_right h7 (Nat.mul_pos hS hK)
  ·rw [hmore] at k1
   have kq : n / 2 ^ k + 1 ≤ 2 * f.binade := k1
   show T * f.binade + (n / 2 ^ k + 1) ≤ t
   apply Nat.le_of_not_lt
   intro hc
   have h5 : t ≤ T * f.binade + n / 2 ^ k := by omega
   have h6 : val f t ≤ n / 2 ^ k * 2 ^ T := by
    rw [← val_kept f (by omega) hq1]
    rcases Nat.lt_or_eq_of_le h5 with g | g
    ·exact Nat.le_of_lt (val_lt f g)
    ·rw [g]; exact Nat.le_refl _
   have h7 : n * (2 ^ T * 2 ^ (f.leastPlace + 4000).toNat) ≤ n / 2 ^ k * 2 ^ k * (2 ^ T * 2 ^ (f.leastPlace + 4000).toNat) := by
    refine Nat.le_trans hX ?_
    have a1 : n / 2 ^ k * 2 ^ k * (2 ^ T * 2 ^ (f.leastPlace + 4000).toNat) = n / 2 ^ k * 2 ^ T * (2 ^ (f.leastPlace + 4000).toNat * 2 ^ k) := by ac_rfl
    rw [a1, Nat.mul_assoc (val f t)]
    exact Nat.mul_le_mul_right _ h6
   have h8 : n ≤ n / 2 ^ k * 2 ^ k := Nat.le_of_mul_le_mul_right h7 (Nat.mul_pos (two_pos T) hS)
   have h9 : n % 2 ^ k = 0 := by rw [Nat.mul_comm] at h8; omega
   rw [h9] at hmore
   unfold moreT at hmore
   simp at hmore
theorem rootFrom_lt (n : Nat) : ∀ (todo root : Nat), Datum.rootFrom n todo root < root + 2 ^ todo
 | 0, root => by unfold Datum.rootFrom; rw [Nat.pow_zero]; omega
 | todo + 1, root => by
  unfold Datum.rootFrom
  simp only [Nat.one_shiftLeft]
  have hp := two_pos todo
  split
  ·have := rootFrom_lt n todo (root + 2 ^ todo)
   rw [Nat.pow_succ]; omega
  ·have := rootFrom_lt n todo root
   rw [Nat.pow_succ]; omega
theorem val_pow {f : Format} {b d : Nat} (H : Half f b d) (hbd : b + d ≤ 3000) (j : Nat) : sc (val f ((b + j) * 2 ^ d)) f.leastPlace = 2 ^ j * U := by
 have e1 : (b + j) * 2 ^ d / 2 ^ d = b + j := Nat.mul_div_cancel _ (two_pos d)
 have b2 := H.b2
 have d1 := H.d1
 rw [val_e H.binade (by rw [e1]; omega), e1, Nat.mul_mod_left, Nat.add_zero, unit_U H hbd]
 have h : 2 ^ d * 2 ^ (b + j - 1) = 2 ^ j * 2 ^ (b + d - 1) := by rw [← Nat.pow_add, ← Nat.pow_add]; congr 1; omega
 unfold sc unitH
 rw [h, Nat.mul_assoc]
theorem val_mono (f : Format) {r t : Nat} (h : r ≤ t) : val f r ≤ val f t := by
 rcases Nat.lt_or_eq_of_le h with g | g
 ·exact Nat.le_of_lt (val_lt f g)
 ·rw [g]; exact Nat.le_refl _
theorem short_of_bound {s : Bool} {P : Nat} {pl' : Int} (hp : -4000 ≤ pl') (h : sc P pl' ≤ 2 ^ 66 * U) : shO (double.write (.number s P pl')) = true ∧ isN double (double.write (.number s P pl')) = false := by
 show shO (double.nearest s P pl') = true ∧ isN double (double.nearest s P pl') = false
 have hd := val_pow half_d (by decide) 66
 have hs := val_pow half_s (by decide) 66
 obtain ⟨r, h1, _, e⟩ := nearest_le double two_d.least.1 s hp (t := (1023 + 66) * 2 ^ 52) (by rw [hd]; exact h)
 have hr : r < double.infRung := Nat.lt_of_le_of_lt h1 (by decide)
 obtain ⟨a1, a2, a3⟩ := wo_word double s hr
 rw [e]
 refine ⟨?_, fin_notN a1⟩
 unfold shO
 have hw : sc (mg double (double.word s r)) (pl double (double.word s r)) ≤ 2 ^ 66 * U := by
  have e2 : sc (mg double (double.word s r)) (pl double (double.word s r)) = sc (val double r) double.leastPlace := wo_val two_d a3
  rw [e2, ← hd]
  exact Nat.mul_le_mul_right _ (val_mono double h1)
 obtain ⟨q, q1, _, q3⟩ := nearest_le single two_s.least.1 (ng double (double.word s r)) (pl_ge two_d _) (t := (127 + 66) * 2 ^ 23) (by rw [hs]; exact hw)
 have hq : q < single.infRung := Nat.lt_of_le_of_lt q1 (by decide)
 have e3 : single.write (double.read (double.word s r)) = single.word (ng double (double.word s r)) q := by
  rw [read_fin a1]
  exact q3
 rw [e3, (wo_word single _ hq).1]
 simp
theorem sqrt_short {a r : Nat} (hn : isN single a = false) (h : double.sqrt (lng a) = some r) : shO r = true := by
 unfold Format.sqrt at h
 cases hf : fin single a
 ·have l1 := lng_fin hn
  rw [hf] at l1
  have l2 := lng_notN hn
  rw [read_infty two_d l1 l2] at h
  unfold Datum.root at h
  cases hs : ng double (lng a)
  ·rw [hs] at h
   have e : double.write (.infinity false) = r := by simpa using h
   rw [← e]
   decide
  ·rw [hs] at h; simp at h
 ·obtain ⟨l1, l2, l3⟩ := longer hf
  have l1' : fin double (lng a) = true := l1
  have l3' : sc (mg double (lng a)) (pl double (lng a)) = wo single a := l3
  rw [read_fin l1'] at h
  have hmx : wo single a < 2 ^ 128 * U := by
   have e1 := wo_val two_s (rfl : rg single a = rg single a)
   have e2 := val_pow half_s (by decide) 128
   rw [e1, ← e2]
   refine Nat.mul_lt_mul_of_pos_right (val_lt single ?_) (two_pos _)
   have := of_decide_eq_true hf
   have hi : single.infRung = (127 + 128) * 2 ^ 23 := by decide
   omega
  obtain ⟨m, hm⟩ : ∃ m, mg double (lng a) = m := ⟨_, rfl⟩
  obtain ⟨i, hi⟩ : ∃ i, pl double (lng a) = i := ⟨_, rfl⟩
  have hil : -1074 ≤ i := by
   rw [← hi]; unfold pl; rw [double_least]; omega
  rw [hm, hi] at h l3'
  unfold Datum.root at h
  simp only at h
  by_cases h0 : m = 0
  ·rw [if_pos h0] at h
   have e : double.write (.number (ng double (lng a)) m i) = r := by simpa using h
   rw [← e]
   refine (short_of_bound (by omega) ?_).1
   rw [h0, sc_zero]; exact Nat.zero_le _
  ·rw [if_neg h0] at h
   cases hs : ng double (lng a)
   ·rw [hs] at h
    simp only [Bool.false_eq_true, if_false] at h
    have e := Option.some.inj h
    rw [← e]
    obtain ⟨more, hmore⟩ : ∃ more, 2 * (double.fractionBits + 2) - m.log2 + ((i - ((2 * (double.fractionBits + 2) - m.log2 : Nat) : Int)) % 2).toNat = more := ⟨_, rfl⟩
    rw [hmore]
    have hml : more ≤ 2 * 54 + 1 := by
     have : double.fractionBits = 52 := rfl
     omega
    have hlm : 2 ^ m.log2 ≤ m := Nat.log2_self_le h0
    have hU : 0 < U := U_pos
    have hexp : (m.log2 : Int) + i < 128 := by
     apply Int.lt_of_not_ge
     intro hc
     have g1 : 2 ^ 128 * U ≤ sc m i := by
      have hUU : U = 2 ^ (0 + 4000 : Int).toNat := by unfold U sc; rw [Nat.one_mul]
      unfold sc
      rw [hUU, ← Nat.pow_add]
      refine Nat.le_trans (Nat.pow_le_pow_right (by decide) ?_) (Nat.le_trans (Nat.le_of_eq (Nat.pow_add 2 m.log2 (i + 4000).toNat)) (Nat.mul_le_mul_right _ hlm))
      omega
     omega
    have hlog : (m <<< more).log2 = m.log2 + more := by
     rw [Nat.shiftLeft_eq]
     refine (Nat.log2_eq_iff (Nat.mul_ne_zero h0 (Nat.ne_of_gt (two_pos more)))).2 ⟨?_, ?_⟩
     ·rw [Nat.pow_add]; exact Nat.mul_le_mul_right _ hlm
     ·have : m < 2 ^ (m.log2 + 1) := Nat.lt_log2_self
      rw [show m.log2 + more + 1 = m.log2 + 1 + more by omega, Nat.pow_add]
      exact Nat.mul_lt_mul_of_pos_right this (two_pos _)
    have hroot := rootFrom_lt (m <<< more) ((m <<< more).log2 / 2 + 1) 0
    rw [hlog] at hroot
    rw [hlog]
    generalize Datum.rootFrom (m <<< more) ((m.log2 + more) / 2 + 1) 0 = whole at hroot ⊢
    refine (short_of_bound (by omega) ?_).1
    have hP : 2 * whole + (whole * whole != m <<< more).toNat ≤ 2 ^ ((m.log2 + more) / 2 + 2) := by
     have : (whole * whole != m <<< more).toNat ≤ 1 := Bool.toNat_le _
     rw [Nat.pow_succ]; omega
    have hUU : U = 2 ^ (0 + 4000 : Int).toNat := by unfold U sc; rw [Nat.one_mul]
    refine Nat.le_trans (Nat.mul_le_mul_right _ hP) ?_
    rw [hUU, ← Nat.pow_add, ← Nat.pow_add]
    exact Nat.pow_le_pow_right (by decide) (by omega)
   ·rw [hs] at h; simp at h
end Go.Fl
namespace Go.Fl
open Ieee Go.Ev Go.RowKit Go.Wh
end Go.Fl
namespace Go.Fl
open Ieee Go.Ev Go.RowKit Go.Wh
end Go.Fl
namespace Go.Fl
open Ieee Go.Ev Go.RowKit Go.Wh
end Go.Fl
namespace Go.Fl
open Ieee Go.Ev Go.RowKit Go.Wh
end Go.Fl
namespace Go.Fl
open Ieee Go.Ev Go.RowKit Go.Wh
end Go.Fl
namespace Go.Fl
open Ieee Go.Ev Go.RowKit Go.Wh
end Go.Fl
namespace Go.Fl
open Ieee Go.Ev Go.RowKit Go.Wh
end Go.Fl
namespace Go.Fl
open Ieee Go.Ev Go.RowKit Go.Wh
theorem fm_ok (w : Int) : -4000 ≤ (fmW w).leastPlace ∧ 1 ≤ (fmW w).fractionBits := by
 unfold fmW
 split <;> decide
theorem near_sign (f : Format) (hl : -4000 ≤ f.leastPlace) (m : Nat) {p : Int} (hp : -4000 ≤ p) : ∃ r, r ≤ f.infRung ∧ ∀ s, f.nearest s m p = f.word s r := by
 by_cases hm : m = 0
 ·refine ⟨0, Nat.zero_le _, fun s => ?_⟩
  unfold Format.nearest
  rw [if_pos hm]
 ·refine ⟨_, Nat.min_le_right ((max (p + m.log2 - f.fractionBits) f.leastPlace - f.leastPlace).toNat * f.binade + Toward.even.cut false (m <<< (p - max (p + m.log2 - f.fractionBits) f.leastPlace).toNat) (max (p + m.log2 - f.fractionBits) f.leastPlace - p).toNat) f.infRung, fun s => ?_⟩
  unfold Format.nearest
  rw [if_neg hm]
  simp only
  rw [cut_sign s false]
def rI (w : Int) (k : Nat) : Nat := rg (fmW w) ((fmW w).nearest false k 0)
theorem rI_word (w : Int) (k : Nat) : rI w k ≤ (fmW w).infRung ∧ ∀ s, (fmW w).nearest s k 0 = (fmW w).word s (rI w k) := by
 obtain ⟨r, h1, h2⟩ := near_sign (fmW w) (fm_ok w).1 k (p := 0) (by decide)
 have e : rI w k = r := by
  unfold rI
  rw [h2]
  exact (word_mod _ false (Nat.lt_of_le_of_lt h1 (inf_lt _))).1
 rw [e]
 exact ⟨h1, h2⟩
def flI (w n : Int) : BitVec 64 := BitVec.ofNat 64 ((fmW w).nearest (n < 0) n.natAbs 0)
theorem fm_64 (w : Int) {x : Nat} (h : x < 2 * (fmW w).signWeight) : x < 2 ^ 64 := by
 refine Nat.lt_of_lt_of_le h ?_
 unfold fmW
 split <;> decide
theorem flI_facts {w : Int} (hw : wOK w = true) (n : Int) : inF w (flI w n) = true ∧ noW w (flI w n) = false ∧ keW w (flI w n) = sg (decide (n < 0)) (rI w n.natAbs) := by
 obtain ⟨h1, h2⟩ := rI_word w n.natAbs
 have hlt := Nat.lt_of_le_of_lt h1 (inf_lt (fmW w))
 have e : flI w n = BitVec.ofNat 64 ((fmW w).word (decide (n < 0)) (rI w n.natAbs)) := by unfold flI; rw [h2]
 have hl := word_lt (fmW w) (decide (n < 0)) hlt
 obtain ⟨v1, v2⟩ := word_mod (fmW w) (decide (n < 0)) hlt
 have et : (flI w n).toNat = (fmW w).word (decide (n < 0)) (rI w n.natAbs) := by rw [e, BitVec.toNat_ofNat, Nat.mod_eq_of_lt (fm_64 w hl)]
 refine ⟨by rw [in_iff hw, et]; exact hl, ?_, ?_⟩
 ·refine decide_eq_false ?_
  show ¬ _ < (flI w n).toNat % (fmW w).signWeight
  rw [et, v1]; omega
 ·unfold keW key
  rw [et]
  rw [show ng (fmW w) ((fmW w).word (decide (n < 0)) (rI w n.natAbs)) = decide (n < 0) from v2, show rg (fmW w) ((fmW w).word (decide (n < 0)) (rI w n.natAbs)) = rI w n.natAbs from v1]
def clB' (f : Format) (B x : Nat) : Nat := if (fin f x && decide (wh f x ≤ B)) = true then wh f x else B
theorem clB_le (f : Format) (B x : Nat) : clB' f B x ≤ B := by
 unfold clB'
 split
 ·rename_i h
  rw [Bool.and_eq_true] at h
  exact of_decide_eq_true h.2
 ·exact Nat.le_refl _
end Go.Fl

/-
  PROVED HERE: FloatsRoot, for every input: a root is no number just of what is no number, or below 0; else it is not below 0, and greater of what is greater. No conditions beyond the row's own.
-/
import Derived.Test.YtieeafjcnomakaaF04w
import Derived.Test.YtieeafjcnomakaaF04r
import Derived.Test.YtieeafjcnomakaaF04z
import Derived.Test.YtieeafjcnomakaaFlE
set_option linter.unusedSimpArgs false
set_option linter.unusedVariables false
namespace Go.L04
open Go.Ev Go.Proofs Go.RowKit Go.Wh Go.Fl

def FA : Option D := some (.bool false)
def TR : Option D := some (.bool true)
noncomputable def oneBG (V : BitVec 8 → Int → BitVec 64 → BitVec 64) : Ev.Spec := joined fun | [.u8 o, .i .i64 w, .u64 a] => some (.u64 (V o w a)) | _ => none
theorem nf_l1 (V : BitVec 8 → Int → BitVec 64 → BitVec 64) (E : BitVec 8 → Int → BitVec 64 → Int) (o : BitVec 8) (w : Int) (a : BitVec 64) : ex [(25, oneG V E)] (fun _ => []) Try.f27 [.u8 o, .i .i64 w, .u64 a] some = some (.u64 (V o w a)) := by kernel_rfl
theorem l_one : Snd 27 (oneBG onV) := by
  refine Sound.join (execFn_sound (ann := fun _ => []) (TableOK.cons f_one TableOK.nil) mixed Try.func27 (by kernel_rfl) 50) fun ds d h => ?_
  split at h
  · cases h; exact nf_l1 _ _ _ _ _
  · cases h
def rtE (nx ny le lxy : Bool) : Option D := if (!nx) = true then if (!ny) = true then if le = true then if (!lxy) = true then FA else TR else TR else TR else TR
def rtM (nx ge ny le lxy : Bool) : Option D := if (!nx) = true then if (!ge) = true then FA else rtE nx ny le lxy else rtE nx ny le lxy
def rtL (na nx lt ge ny le lxy : Bool) : Option D := if na = false then if (!(nx == lt)) = true then FA else rtM nx ge ny le lxy else if (!(nx == true)) = true then FA else rtM nx ge ny le lxy
theorem nf11 (W : BitVec 8 → Int) (O : Int → BitVec 64 → BitVec 64) (V : BitVec 8 → Int → BitVec 64 → BitVec 64) (N : Int → BitVec 64 → Bool) (TH : CV) (n : BitVec 8) (a b : BitVec 64) : ex [(20, widG W), (21, lofG O), (27, oneBG V), (24, noBG N), (22, thBG TH), (15, worksS)] (fun _ => []) Try.f11 [.u8 n, .u64 a, .u64 b] some =
  rtL (N (W n) (O (W n) a)) (N (W n) (V 12#8 (W n) (O (W n) a))) (TH 19#8 (W n) (O (W n) a) 0#64) (TH 22#8 (W n) (V 12#8 (W n) (O (W n) a)) 0#64) (N (W n) (V 12#8 (W n) (O (W n) b))) (TH 21#8 (W n) (O (W n) a) (O (W n) b)) (TH 21#8 (W n) (V 12#8 (W n) (O (W n) a)) (V 12#8 (W n) (O (W n) b))) := by kernel_rfl
theorem rtL_ok {na nx lt ge ny le lxy : Bool} (h1 : nx = (na || lt)) (h2 : nx = false → ge = true) (h3 : nx = false → ny = false → le = true → lxy = true) : rtL na nx lt ge ny le lxy = some (.bool true) := by
  unfold rtL rtM rtE
  revert h1 h2 h3
  cases na <;> cases nx <;> cases lt <;> cases ge <;> cases ny <;> cases le <;> cases lxy <;> intro h1 h2 h3 <;> first | rfl | (exact absurd h1 (by decide)) | (exact absurd (h2 rfl) (by decide)) | (exact absurd (h3 rfl rfl rfl) (by decide))
/-! widths -/
theorem lng_rg_zero {x : Nat} (hn : isN Ieee.single x = false) : rg Ieee.double (lng x) = 0 ↔ rg Ieee.single x = 0 := by
  have hf := lng_fin hn
  cases h1 : fin Ieee.single x
  · rw [h1] at hf
    rw [rg_inf hf (lng_notN hn), rg_inf h1 hn]
    exact ⟨fun h => absurd h (by decide), fun h => absurd h (by decide)⟩
  · obtain ⟨_, _, e⟩ := longer h1
    have e' : wo Ieee.double (lng x) = wo Ieee.single x := e
    rw [← mg_zero, ← mg_zero]
    constructor
    · intro h
      apply Classical.byContradiction
      intro h2
      have := sc_pos h2 (pl Ieee.single x)
      have e2 : wo Ieee.double (lng x) = 0 := by unfold wo; rw [h, sc_zero]
      unfold wo at e' e2
      omega
    · intro h
      apply Classical.byContradiction
      intro h2
      have := sc_pos h2 (pl Ieee.double (lng x))
      have e2 : wo Ieee.single x = 0 := by unfold wo; rw [h, sc_zero]
      unfold wo at e' e2
      omega
theorem lng_rg_mono {x y : Nat} (hx : isN Ieee.single x = false) (hy : isN Ieee.single y = false) (h : rg Ieee.single x ≤ rg Ieee.single y) : rg Ieee.double (lng x) ≤ rg Ieee.double (lng y) := by
  have fx := lng_fin hx
  have fy := lng_fin hy
  cases h1 : fin Ieee.single y
  · rw [h1] at fy
    rw [rg_inf fy (lng_notN hy)]
    have := of_decide_eq_false (lng_notN hx)
    omega
  · have h2 := fin_mono h h1
    obtain ⟨_, _, e1⟩ := longer h1
    obtain ⟨_, _, e2⟩ := longer h2
    have e1' : wo Ieee.double (lng y) = wo Ieee.single y := e1
    have e2' : wo Ieee.double (lng x) = wo Ieee.single x := e2
    have hm := wo_mono two_s h
    rw [← e1', ← e2', wo_val two_d (rfl : rg Ieee.double (lng x) = _), wo_val two_d (rfl : rg Ieee.double (lng y) = _)] at hm
    exact val_le _ (Nat.le_of_mul_le_mul_right hm (Fl.two_pos _))
/-- Where a root is a number. -/
def dmW (w : Int) (a : BitVec 64) : Prop := ng (fmW w) a.toNat = true → rg (fmW w) a.toNat = 0
/-- Its rung. -/
def rrW (w : Int) (a : BitVec 64) : Nat := if w = 32 then shRg (Ieee.double.word (ng Ieee.double (lng a.toNat)) (sqRg (lng a.toNat))) else sqRg a.toNat
theorem sq_in {w : Int} {a : BitVec 64} (ha : inF w a = true) (hn : noW w a = false) (hd : dmW w a) : sqW w a = BitVec.ofNat 64 ((fmW w).word (ng (fmW w) a.toNat) (rrW w a)) ∧ rrW w a ≤ (fmW w).infRung ∧ (rg (fmW w) a.toNat = 0 → rrW w a = 0) := by
  rcases inF_cases ha with ⟨rfl, la⟩ | rfl
  · have hn' : isN Ieee.single a.toNat = false := hn
    have hd' : ng Ieee.single a.toNat = true → rg Ieee.single a.toNat = 0 := hd
    have l2 := lng_notN hn'
    have hg := lng_ng hn'
    have hz := lng_rg_zero hn'
    obtain ⟨b1, b2, b3, _⟩ := sqrt_word l2 (fun h => hz.2 (hd' (hg ▸ h)))
    obtain ⟨v1, v2⟩ := word_mod Ieee.double (ng Ieee.double (lng a.toNat)) (Nat.lt_of_le_of_lt b2 (inf_lt _))
    have vn : isN Ieee.double (Ieee.double.word (ng Ieee.double (lng a.toNat)) (sqRg (lng a.toNat))) = false := by
      refine decide_eq_false ?_
      show ¬ _ < Ieee.double.word _ _ % Ieee.double.signWeight
      rw [v1]; omega
    obtain ⟨c1, c2, c3, _⟩ := short_word vn
    have vg : ng Ieee.double (Ieee.double.word (ng Ieee.double (lng a.toNat)) (sqRg (lng a.toNat))) = ng Ieee.single a.toNat := (show _ = _ from v2).trans hg
    refine ⟨?_, c2, fun h0 => c3 ?_⟩
    · have s1 : sqN (lng a.toNat) = false := by unfold sqN; rw [b1]; rfl
      have s2 : sqR (lng a.toNat) = Ieee.double.word (ng Ieee.double (lng a.toNat)) (sqRg (lng a.toNat)) := by unfold sqR; rw [b1]; rfl
      show (if noW 32 a = true then _ else if sqN (lng a.toNat) = true then _ else bsV 32 (sqR (lng a.toNat))) = _
      rw [hn, s1, s2]
      show (if isN Ieee.double (Ieee.double.word (ng Ieee.double (lng a.toNat)) (sqRg (lng a.toNat))) = true then naW 32 else BitVec.ofNat 64 (Ieee.single.write (Ieee.double.read (Ieee.double.word (ng Ieee.double (lng a.toNat)) (sqRg (lng a.toNat)))))) = _
      rw [vn, c1, vg]
      rfl
    · show Ieee.double.word _ _ % Ieee.double.signWeight = 0
      rw [v1]
      exact b3 (hz.2 h0)
  · have hn' : isN Ieee.double a.toNat = false := hn
    obtain ⟨b1, b2, b3, _⟩ := sqrt_word hn' hd
    refine ⟨?_, b2, b3⟩
    have s1 : sqN a.toNat = false := by unfold sqN; rw [b1]; rfl
    have s2 : sqR a.toNat = Ieee.double.word (ng Ieee.double a.toNat) (sqRg a.toNat) := by unfold sqR; rw [b1]; rfl
    show (if noW 64 a = true then _ else if sqN a.toNat = true then _ else bsV 64 (sqR a.toNat)) = _
    rw [hn, s1, s2]
    obtain ⟨v1, v2⟩ := word_mod Ieee.double (ng Ieee.double a.toNat) (Nat.lt_of_le_of_lt b2 (inf_lt _))
    have vn : isN Ieee.double (Ieee.double.word (ng Ieee.double a.toNat) (sqRg a.toNat)) = false := by
      refine decide_eq_false ?_
      show ¬ _ < Ieee.double.word _ _ % Ieee.double.signWeight
      rw [v1]; omega
    show (if isN Ieee.double (Ieee.double.word (ng Ieee.double a.toNat) (sqRg a.toNat)) = true then naW 64 else BitVec.ofNat 64 (Ieee.double.word (ng Ieee.double a.toNat) (sqRg a.toNat))) = _
    rw [vn]; rfl
theorem sq_out {w : Int} {a : BitVec 64} (ha : inF w a = true) (hn : noW w a = true ∨ ¬ dmW w a) : sqW w a = naW w := by
  cases h1 : noW w a
  · rcases hn with h | h
    · rw [h1] at h; cases h
    · have hs : sqN (wdW w a) = true := by
        unfold dmW at h
        have h2 : ng (fmW w) a.toNat = true := by
          cases hg : ng (fmW w) a.toNat
          · exact absurd (fun q => by rw [hg] at q; cases q) h
          · rfl
        have h3 : rg (fmW w) a.toNat ≠ 0 := fun q => h (fun _ => q)
        unfold sqN
        rcases inF_cases ha with ⟨rfl, la⟩ | rfl
        · have hn' : isN Ieee.single a.toNat = false := h1
          show (Ieee.double.sqrt (lng a.toNat)).isNone = true
          rw [sqrt_neg (lng_notN hn') ((lng_ng hn').trans h2) (fun q => h3 ((lng_rg_zero hn').1 q))]; rfl
        · show (Ieee.double.sqrt a.toNat).isNone = true
          rw [sqrt_neg h1 h2 h3]; rfl
      unfold sqW
      rw [h1, hs]; rfl
  · unfold sqW; rw [h1]; rfl
theorem rr_mono {w : Int} {a b : BitVec 64} (ha : inF w a = true) (na : noW w a = false) (da : dmW w a) (hb : inF w b = true) (nb : noW w b = false) (db : dmW w b) (h : rg (fmW w) a.toNat ≤ rg (fmW w) b.toNat) : rrW w a ≤ rrW w b := by
  rcases inF_cases ha with ⟨rfl, la⟩ | rfl
  · have na' : isN Ieee.single a.toNat = false := na
    have nb' : isN Ieee.single b.toNat = false := nb
    have da' : ng Ieee.single a.toNat = true → rg Ieee.single a.toNat = 0 := da
    have db' : ng Ieee.single b.toNat = true → rg Ieee.single b.toNat = 0 := db
    have xa : ng Ieee.double (lng a.toNat) = true → rg Ieee.double (lng a.toNat) = 0 := fun q => (lng_rg_zero na').2 (da' ((lng_ng na') ▸ q))
    have xb : ng Ieee.double (lng b.toNat) = true → rg Ieee.double (lng b.toNat) = 0 := fun q => (lng_rg_zero nb').2 (db' ((lng_ng nb') ▸ q))
    have hm := sqRg_mono (lng_notN na') xa (lng_notN nb') xb (lng_rg_mono na' nb' h)
    obtain ⟨_, a2, _, _⟩ := sqrt_word (lng_notN na') xa
    obtain ⟨_, b2, _, _⟩ := sqrt_word (lng_notN nb') xb
    obtain ⟨v1, _⟩ := word_mod Ieee.double (ng Ieee.double (lng a.toNat)) (Nat.lt_of_le_of_lt a2 (inf_lt _))
    obtain ⟨u1, _⟩ := word_mod Ieee.double (ng Ieee.double (lng b.toNat)) (Nat.lt_of_le_of_lt b2 (inf_lt _))
    refine shRg_mono (decide_eq_false ?_) (decide_eq_false ?_) ?_
    · show ¬ _ < Ieee.double.word _ _ % Ieee.double.signWeight
      rw [v1]; omega
    · show ¬ _ < Ieee.double.word _ _ % Ieee.double.signWeight
      rw [u1]; omega
    · show Ieee.double.word _ _ % Ieee.double.signWeight ≤ Ieee.double.word _ _ % Ieee.double.signWeight
      rw [v1, u1]; exact hm
  · exact sqRg_mono na da nb db h
theorem sq_word {w : Int} {a : BitVec 64} (ha : inF w a = true) (hn : noW w a = false) (hd : dmW w a) : inF w (sqW w a) = true ∧ noW w (sqW w a) = false ∧ keW w (sqW w a) = (rrW w a : Int) := by
  obtain ⟨h1, h2, h3⟩ := sq_in ha hn hd
  have hw := in_ok ha
  have hlt := Nat.lt_of_le_of_lt h2 (inf_lt (fmW w))
  obtain ⟨v1, v2⟩ := word_mod (fmW w) (ng (fmW w) a.toNat) hlt
  have hl := word_lt (fmW w) (ng (fmW w) a.toNat) hlt
  have hl64 : (fmW w).word (ng (fmW w) a.toNat) (rrW w a) < 2 ^ 64 := by
    refine Nat.lt_of_lt_of_le hl ?_
    unfold fmW
    split <;> decide
  have et : (sqW w a).toNat = (fmW w).word (ng (fmW w) a.toNat) (rrW w a) := by rw [h1, BitVec.toNat_ofNat, Nat.mod_eq_of_lt hl64]
  have er : rg (fmW w) (sqW w a).toNat = rrW w a := by rw [et]; exact v1
  have eg : ng (fmW w) (sqW w a).toNat = ng (fmW w) a.toNat := by rw [et]; exact v2
  refine ⟨?_, ?_, ?_⟩
  · rw [in_iff hw, et]; exact hl
  · refine decide_eq_false ?_
    rw [er]; omega
  · unfold keW key
    rw [er, eg]
    cases hg : ng (fmW w) a.toNat
    · rfl
    · rw [h3 (hd hg)]; rfl
theorem rt_ok {w : Int} {a b : BitVec 64} (ha : inF w a = true) (hb : inF w b = true) : rtL (nonV w a) (nonV w (onV 12#8 w a)) (fthV 19#8 w a 0#64) (fthV 22#8 w (onV 12#8 w a) 0#64) (nonV w (onV 12#8 w b)) (fthV 21#8 w a b) (fthV 21#8 w (onV 12#8 w a) (onV 12#8 w b)) = some (.bool true) := by
  have hw := in_ok ha
  have i0 : inF w 0#64 = true := by rcases wOK_cases hw with rfl | rfl <;> rfl
  have n0 : noW w 0#64 = false := by rcases wOK_cases hw with rfl | rfl <;> decide
  have k0 : keW w 0#64 = 0 := by rcases wOK_cases hw with rfl | rfl <;> decide
  have nV : ∀ z, inF w z = true → nonV w z = noW w z := fun z hz => by unfold nonV; rw [hz, Bool.true_and]
  have ov : ∀ z, inF w z = true → onV 12#8 w z = sqW w z := fun z hz => by unfold onV; rw [hz]; rfl
  obtain ⟨z1, z2⟩ := na_no hw
  have dec : ∀ z, Decidable (dmW w z) := fun z => inferInstanceAs (Decidable (_ → _))
  have hx : ∀ z, inF w z = true → (noW w z = false ∧ dmW w z ∧ inF w (sqW w z) = true ∧ noW w (sqW w z) = false ∧ keW w (sqW w z) = (rrW w z : Int)) ∨ ((noW w z = true ∨ ¬ dmW w z) ∧ inF w (sqW w z) = true ∧ noW w (sqW w z) = true) := fun z hz => by
    cases hn : noW w z
    · rcases Classical.em (dmW w z) with hd | hd
      · exact .inl ⟨rfl, hd, sq_word hz hn hd⟩
      · refine .inr ⟨.inr hd, ?_⟩
        rw [sq_out hz (.inr hd)]; exact ⟨z1, z2⟩
    · refine .inr ⟨.inl rfl, ?_⟩
      rw [sq_out hz (.inl hn)]; exact ⟨z1, z2⟩
  -- below 0
  have lt0 : ∀ z, noW w z = false → (keW w z < 0 ↔ ¬ dmW w z) := fun z _ => by
    unfold dmW keW key sg
    cases ng (fmW w) z.toNat
    · simp only [Bool.false_eq_true, if_false]
      constructor
      · intro h; omega
      · intro h; exact absurd (fun q => by cases q) h
    · simp only [if_true]
      constructor
      · intro h q; have := q trivial; omega
      · intro h
        have : rg (fmW w) z.toNat ≠ 0 := fun q => h (fun _ => q)
        omega
  have t19 : fthV 19#8 w a 0#64 = leW w a 0#64 := by unfold fthV; rw [ma_in ha i0, Bool.true_and]; rfl
  rw [ov a ha, ov b hb, nV a ha, t19]
  rcases hx a ha with ⟨a1, a2, a3, a4, a5⟩ | ⟨a1, a2, a3⟩
  · have ge : fthV 22#8 w (sqW w a) 0#64 = true := by
      unfold fthV
      rw [ma_in a3 i0, Bool.true_and]
      show (leW w 0#64 (sqW w a) || eqW w (sqW w a) 0#64) = true
      unfold leW eqW
      rw [a4, n0, a5, k0]
      rcases Nat.eq_zero_or_pos (rrW w a) with g | g
      · rw [g]; rfl
      · rw [decide_eq_true (by omega)]; rfl
    refine rtL_ok ?_ (fun _ => ge) ?_
    · rw [nV _ a3, a4, a1, Bool.false_or]
      unfold leW
      rw [a1, n0, k0]
      rw [decide_eq_false (fun q => ((lt0 a a1).1 q) a2)]; rfl
    · intro _ hy hle
      rcases hx b hb with ⟨b1, b2, b3, b4, b5⟩ | ⟨b1, b2, b3⟩
      · unfold fthV at hle ⊢
        rw [ma_in ha hb, Bool.true_and] at hle
        rw [ma_in a3 b3, Bool.true_and]
        have hle : (leW w a b || eqW w a b) = true := hle
        show (leW w (sqW w a) (sqW w b) || eqW w (sqW w a) (sqW w b)) = true
        unfold leW eqW at hle ⊢
        rw [a1, b1] at hle
        rw [a4, b4, a5, b5]
        have hk : keW w a ≤ keW w b := by
          simp only [Bool.not_false, Bool.true_and, Bool.or_eq_true, decide_eq_true_eq, beq_iff_eq] at hle
          omega
        have hr : rg (fmW w) a.toNat ≤ rg (fmW w) b.toNat := by
          unfold keW key sg at hk
          unfold dmW at a2 b2
          clear hx lt0
          generalize ng (fmW w) a.toNat = ga at hk a2
          generalize ng (fmW w) b.toNat = gb at hk b2
          cases ga
          · cases gb
            · simp only [Bool.false_eq_true, if_false] at hk; omega
            · have := b2 rfl
              simp only [Bool.false_eq_true, if_false, if_true] at hk; omega
          · have := a2 rfl
            omega
        have hm := rr_mono ha a1 a2 hb b1 b2 hr
        rcases Nat.lt_or_eq_of_le hm with g | g
        · rw [decide_eq_true (by omega)]; rfl
        · rw [g, beq_self_eq_true]
          cases decide ((rrW w b : Int) < (rrW w b : Int)) <;> rfl
      · rw [nV _ b2, b3] at hy
        cases hy
  · refine rtL_ok ?_ (fun h => ?_) (fun h => ?_)
    · rw [nV _ a2, a3]
      cases hn : noW w a
      · rcases a1 with h | h
        · rw [hn] at h; cases h
        · rw [Bool.false_or]
          unfold leW
          rw [hn, n0, k0, decide_eq_true ((lt0 a hn).2 h)]; rfl
      · rfl
    · rw [nV _ a2, a3] at h; cases h
    · rw [nV _ a2, a3] at h; cases h
theorem floatsRoot_s : Snd 11 (trueS fun | [.u8 _, .u64 _, .u64 _] => true | _ => false) := by
  refine Sound.guard (execFn_sound (ann := fun _ => []) (TableOK.cons t_wid (TableOK.cons t_lof (TableOK.cons l_one (TableOK.cons l_none (TableOK.cons l_than (TableOK.cons s_works TableOK.nil)))))) mixed Try.func11 (by kernel_rfl) 50) fun ds d h => ?_
  simp only [Option.some.injEq, Prod.mk.injEq] at h
  obtain ⟨h, rfl⟩ := h
  split at h
  · rename_i n a b
    exact (nf11 _ _ _ _ _ n a b).trans (rt_ok (in_wl n a) (in_wl n b))
  · cases h

end Go.L04
namespace Go.Proofs.Ytieeafjcnomakaa.floatsRoot
open Go Go.L04 Go.Ev Go.RowKit Go.ChangeShapes Go.WideShapes Go.ChangeAt
set_option maxRecDepth 100000 in
theorem lifted (os : Os) (started : os.Started) (H : Type) (enc : TypeId × Value → H) :
    ReturnsInHanded {} Try.checked os 11 .any (Rows.floatsRootSpec.pre6 enc Try.prog Try.f11 Rows.floatsRootRow.domain false) (Rows.floatsRootSpec.post enc Try.prog Try.f11 false true false false) := by
  refine returnsInHanded_of_change (C := Try.checked) own started (by kernel_rfl) Try.func11
    (ChangeSpec.witness6 (enc := enc) (C := Try.checked) false ⟨#[], #[.int .u8 0, .int .u64 0, .int .u64 0], []⟩ 8 (by kernel_rfl) (by kernel_rfl) (by kernel_rfl) (by kernel_rfl)) ?_
  intro W base args ds gs before hval0 hW _ _
  have hval : ∀ (j : Nat) t v, Try.f11.params[j]? = some t → args[j]? = some v → Value.okWide Try.prog W .any base t v := hval0
  have hW' := hW
  obtain ⟨p, q, hA0, hV, rfl, hfz, hnd⟩ := hW
  have hA : DataW.TrodAll enc Try.prog W 0 (fun _ => true) true Try.f11.params.toList args.toList ds p := hA0
  rw [Try.params11] at hA hval
  obtain ⟨v0, vs0, d0, ds0, p0, q0, hargs, rfl, rfl, h0, r0⟩ := trodAll_cons hA
  obtain ⟨v1, vs1, d1, ds1, p1, q1, rfl, rfl, rfl, h1, r1⟩ := trodAll_cons r0
  obtain ⟨v2, vs2, d2, ds2, p2, q2, rfl, rfl, rfl, h2, r2⟩ := trodAll_cons r1
  obtain ⟨rfl, rfl, rfl⟩ := trodAll_nil r2
  obtain rfl : args = #[v0, v1, v2] := by cases args; simp_all
  obtain ⟨x0, l0⟩ := arg_u8 (own := none) Try.underlying5 (hval 0 5 v0 rfl rfl) h0
  obtain ⟨x1, l1⟩ := arg_u64 (own := none) Try.underlying23 (hval 1 23 v1 rfl rfl) h1
  obtain ⟨x2, l2⟩ := arg_u64 (own := none) Try.underlying23 (hval 2 23 v2 rfl rfl) h2
  refine (call_true floatsRoot_s (ds := [.u8 x0, .u64 x1, .u64 x2]) rfl (by simp only [lie]; exact ⟨_, _, rfl, l0, _, _, rfl, l1, _, _, rfl, l2, rfl⟩) (by kernel_rfl)).mono fun e W' ⟨he, hb⟩ => ?_
  subst he
  exact ⟨_, rfl, post_law hW' hb laidOut (by kernel_rfl) rfl (by kernel_rfl) Try.underlying4 rfl⟩
end Go.Proofs.Ytieeafjcnomakaa.floatsRoot
namespace Go.Proofs.Ytieeafjcnomakaa
open Go

theorem floatsRoot_holds : Rows.FloatsRootSaid :=
  OpenClaim.holds_of_wide 11 Try.f11 rfl rfl rfl rfl rfl rfl rfl ⟨rfl, rfl, rfl, rfl, rfl⟩ rfl rfl rfl rfl rfl (by kernel_rfl) Try.func11 (by kernel_rfl)
    (of_decide_eq_true (by kernel_rfl)) (by unfold Func.isWrapper; first | (rw [if_pos (by decide +kernel)]; kernel_rfl) | (rw [if_neg (by decide +kernel)]; exact ⟨rfl, rfl⟩))
    (fun os started H enc _ => floatsRoot.lifted os started H enc)
#print axioms floatsRoot_holds
end Go.Proofs.Ytieeafjcnomakaa

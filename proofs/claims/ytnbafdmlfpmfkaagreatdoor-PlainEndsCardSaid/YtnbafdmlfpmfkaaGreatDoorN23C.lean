/-
  Part of the proof; what its functions and lemmas say stands in the text.
-/
import Derived.Test.YtnbafdmlfpmfkaaGreatDoorN23A
import Derived.Test.YtnbafdmlfpmfkaaGreatDoorW23H
import Derived.Test.YtnbafdmlfpmfkaaGreatDoorX23A
import Derived.Test.YtnbafdmlfpmfkaaGreatDoorX23B
import Derived.Test.YtnbafdmlfpmfkaaGreatDoorC23B
import Derived.Test.YtnbafdmlfpmfkaaGreatDoorV23S
set_option linter.unusedSimpArgs false
set_option linter.unusedVariables false
set_option maxRecDepth 100000
namespace Go.L23
open Go.Ev Go.Proofs Go.RowKit Go.Wh
section
variable {P : Program} {G : List (Nat × SV)} {f : FuncId}
theorem Pt.weak {ds : List D} {d d' : D} (h : Pt P G f ds d) (hd : ∀ own w v, lies own w d v → lies own w d' v) : Pt P G f ds d' := fun w args hG hl => by
 rcases h w args hG hl with ⟨v, w', h1, h2, h3⟩ | ⟨h1, h2⟩
 ·exact .inl ⟨v, w', h1, h2, hd _ _ _ h3⟩
 ·exact .inr ⟨h1, Calls.mono h2 fun e w' ⟨v, he, hb, hv⟩ => ⟨v, he, hb, hd _ _ _ hv⟩⟩
theorem Sound.weakG {s : Ev.Spec} (h : Sound P G f s) {F : List D → Option (Bool × D)} (hw : ∀ ds d', F ds = some (true, d') → ∃ d, s ds some = some d ∧ ∀ own w v, lies own w d v → lies own w d' v) : Sound P G f (guarded F) := Sound.of_ptG fun ds d' hd => by
 obtain ⟨d, h1, h2⟩ := hw ds d' hd
 exact Pt.weak (h.pt h1) h2
theorem Sound.weakJ {s : Ev.Spec} (h : Sound P G f s) {F : List D → Option D} (hw : ∀ ds d', F ds = some d' → ∃ d, s ds some = some d ∧ ∀ own w v, lies own w d v → lies own w d' v) : Sound P G f (joined F) := Sound.of_pt fun ds d' hd => by
 obtain ⟨d, h1, h2⟩ := hw ds d' hd
 exact Pt.weak (h.pt h1) h2
theorem Sound.weakT {s : Ev.Spec} (h : Sound P G f s) {F : List D → Option (Bool × Bool × D)} (hw : ∀ ds b d', F ds = some (true, b, d') → ∃ d, s ds some = some d ∧ ∀ own w v, lies own w d v → lies own w (if b = true then .tup [.xi .u64 pU, .i .i64 6] else d') v) : Sound P G f (trapG F) := by
 intro ds K r hK
 unfold trapG at hK
 split at hK
 ·rename_i g b d' hF
  split at hK
  ·rename_i hg
   subst hg
   obtain ⟨d, h1, h2⟩ := hw ds b d' hF
   split at hK
   ·rename_i hb
    rw [if_pos hb] at h2
    exact ⟨_, hK, Pt.weak (h.pt h1) h2⟩
   ·rename_i hb
    rw [if_neg hb] at h2
    exact ⟨_, hK, Pt.weak (h.pt h1) h2⟩
  ·cases hK
 ·cases hK
end
abbrev Wk (d d' : D) : Prop := ∀ own w v, lies own w d v → lies own w d' v
theorem Wk.refl (d : D) : Wk d d := fun _ _ _ h => h
theorem u_U (x : BitVec 64) : Wk (.u64 x) (.xi .u64 pU) := fun own w v h => by
 simp only [lies] at h ⊢
 subst h
 exact ⟨_, rfl, by omega, by have := x.isLt; omega⟩
theorem u_32 {x : BitVec 64} (hx : x ≤ 4294967295#64) : Wk (.u64 x) (.xi .u64 p32) := fun own w v h => by
 simp only [lies] at h ⊢
 subst h
 rw [BitVec.le_def] at hx
 exact ⟨_, rfl, by omega, by have : (4294967295#64).toNat = 4294967295 := rfl; omega⟩
theorem wSc_cases {w : Int} (h : wSc w = true) : w = 32 ∨ w = 64 := by simpa [wSc] using h
theorem maskF_32 : maskF 32 = 4294967295#64 := by decide
theorem le_64 (x : BitVec 64) : x ≤ maskF 64 := by rw [BitVec.le_def]; exact Nat.le_of_lt_succ x.isLt
theorem u_unk {w : Int} (hw : wSc w = true) {x : BitVec 64} (hx : x ≤ maskF w) : Wk (.u64 x) (unk w) := by
 rcases wSc_cases hw with rfl | rfl
 ·exact u_32 (maskF_32 ▸ hx)
 ·exact u_U x
theorem tup_w {d d' e : D} (h : Wk d d') : Wk (.tup [d, e]) (.tup [d', e]) := fun own w v hv => by
 simp only [lies, lie] at hv ⊢
 obtain ⟨cs, rfl, v1, t1, rfl, h1, h2⟩ := hv
 exact ⟨_, rfl, v1, t1, rfl, h own w v1 h1, h2⟩
theorem vec_any (a b : BitVec 64) : Wk (vec a b) anyV := fun own w v hv => by
 simp only [lies, lie, anyV] at hv ⊢
 obtain ⟨cs, rfl, v1, t1, rfl, h1, v2, t2, rfl, h2, h3⟩ := hv
 refine ⟨_, rfl, v1, _, rfl, ?_, v2, _, rfl, ?_, h3⟩
 ·have := u_U a own w v1 (by simpa only [lies] using h1); simpa only [lies] using this
 ·have := u_U b own w v2 (by simpa only [lies] using h2); simpa only [lies] using this
theorem tup_ok {d d' : D} {e : Int} (h : Wk d d') (he : e = 0) : Wk (.tup [d, .i .i64 e]) (.tup [d', .i .i64 0]) := by subst he; exact tup_w h
theorem tup_six {x : BitVec 64} {e : Int} (he : e = 6) : Wk (.tup [.u64 x, .i .i64 e]) (.tup [.xi .u64 pU, .i .i64 6]) := by subst he; exact tup_w (u_U x)
theorem fw_le {w : Int} (hw : wSc w = true) {a : BitVec 64} (h : fw w a = true) : a ≤ maskF w := by
 rcases wSc_cases hw with rfl | rfl
 ·simpa [fw] using h
 ·exact le_64 a
theorem okW_sc {w : Int} (h : wSc w = true) : okW w = true := by rcases wSc_cases h with rfl | rfl <;> decide
theorem wOK_sc {w : Int} (h : wSc w = true) : Fl.wOK w = true := by rcases wSc_cases h with rfl | rfl <;> decide
theorem fit_sc {w : Int} (hw : wSc w = true) {a : BitVec 64} (h : fw w a = true) : fitF w a = true := by
 simp [fitF, okW_sc hw, fw_le hw h]
theorem fw_le8 {w : Int} (hw : okW w = true) {a : BitVec 64} (h : fw w a = true) : a ≤ maskF w := by
 rcases okW_cases hw with rfl | rfl | rfl | rfl
 ·simpa [fw] using h
 ·simpa [fw] using h
 ·simpa [fw] using h
 ·exact le_64 a
theorem may1 {w : Int} {a : BitVec 64} (h : fitF w a = true) : mayF w [a] = true := by
 simp only [fitF, Bool.and_eq_true] at h
 simp [mayF, h.1, of_decide_eq_true h.2]
theorem sh32_of_le {a : BitVec 64} (h : a ≤ 4294967295#64) : a >>> 32 = 0#64 := by
 rw [BitVec.le_def] at h
 apply BitVec.eq_of_toNat_eq
 rw [BitVec.toNat_ushiftRight, Nat.shiftRight_eq_div_pow]
 have : (4294967295#64).toNat = 4294967295 := rfl
 have h2 : a.toNat / 2 ^ 32 = 0 := Nat.div_eq_of_lt (by omega)
 rw [h2]; rfl
theorem fiW_sc {w : Int} (hw : wSc w = true) {a : BitVec 64} (h : fw w a = true) : Fl.fiW w a = true := by
 rcases wSc_cases hw with rfl | rfl
 ·have h1 := fw_le (w := 32) (by decide) h
  rw [maskF_32] at h1
  simp [Fl.fiW, sh32_of_le h1]
 ·rfl
theorem fitC_sc {w : Int} (hw : wSc w = true) {a : BitVec 64} (h : fw w a = true) : L23C.fitC w a = true := fiW_sc hw h
theorem maW2 {w : Int} (hw : wSc w = true) {a b : BitVec 64} (ha : fw w a = true) (hb : fw w b = true) : Fl.maW w [a, b] = true := by
 simp [Fl.maW, wOK_sc hw, fiW_sc hw ha, fiW_sc hw hb]
theorem inF1 {w : Int} (hw : wSc w = true) {a : BitVec 64} (ha : fw w a = true) : Fl.inF w a = true := by
 simp [Fl.inF, wOK_sc hw, fiW_sc hw ha]
theorem okC_sc {w : Int} (h : wSc w = true) : L23C.okC w = true := h
theorem mayC_sc {f t : Int} {a : BitVec 64} (h : gCut f t a = true) : L23C.mayC f t a = true ∧ wSc f = true ∧ wSc t = true := by
 simp only [gCut, Bool.and_eq_true] at h
 exact ⟨by simp [L23C.mayC, okC_sc h.1.1, okC_sc h.1.2, fitC_sc h.1.1 h.2], h.1.1, h.1.2⟩
theorem than_in : ∀ o : BitVec 8, inThan o = true → thanO o = true := by decide +kernel
theorem fth_in : ∀ o : BitVec 8, inFth o = true → Fl.thE o = 0 := by decide +kernel
theorem ftw_in : ∀ o : BitVec 8, inVft o = true → Fl.twE o = 0 := by decide +kernel
theorem ftw_in' : ∀ o : BitVec 8, inFtw o = true → Fl.twE o = 0 := by decide +kernel
theorem fon_in : ∀ o : BitVec 8, inFon o = true → L23F.onOp o = true := by decide +kernel
theorem cnt_in : ∀ o : BitVec 8, inCnt o = true → oneE o = 0 := by decide +kernel
theorem von_in : ∀ o : BitVec 8, inVone o = true → inOne o = true := by decide +kernel
theorem vsh_in : ∀ o : BitVec 8, inVsh o = true → inSh o = true := by decide +kernel
theorem two_in : ∀ o : BitVec 8, inTwo o = true → (o == 1#8 || o == 2#8 || o == 3#8 || o == 4#8 || o == 5#8 || o == 6#8 || o == 7#8 || o == 8#8 || o == 9#8 || o == 10#8 || o == 11#8 || o == 12#8 || o == 13#8 || o == 14#8 || o == 15#8) = true := by decide +kernel
theorem divE_six (o : BitVec 8) (w : Int) (a b : BitVec 64) : divE o w a b = 0 ∨ divE o w a b = 6 := by
 unfold divE
 split
 ·exact .inr rfl
 ·exact .inl rfl
theorem two_err {o : BitVec 8} (h : inTwo o = true) (w : Int) (a b : BitVec 64) : (isDiv o = false → twoE o w a b = 0) ∧ (twoE o w a b = 0 ∨ twoE o w a b = 6) := by
 have := two_in o h
 simp only [Bool.or_eq_true, beq_iff_eq] at this
 rcases this with (((((((((((((rfl | rfl) | rfl) | rfl) | rfl) | rfl) | rfl) | rfl) | rfl) | rfl) | rfl) | rfl) | rfl) | rfl) | rfl
 all_goals first
  | exact ⟨fun _ => rfl, .inl rfl⟩
  | exact ⟨fun h => absurd h (by decide), divE_six _ w a b⟩
theorem and_le' (a b : BitVec 64) : a &&& b ≤ b := by
 rw [BitVec.le_def, BitVec.toNat_and]
 exact Nat.and_le_right
theorem div_fits (o : BitVec 8) {w : Int} {a b : BitVec 64} (ha : a ≤ maskF w) : divV o w a b ≤ maskF w := by
 unfold divV
 split
 ·rw [BitVec.le_def]; exact Nat.zero_le _
 ·split
  ·rw [BitVec.le_def] at ha ⊢
   rw [BitVec.toNat_udiv]
   exact Nat.le_trans (Nat.div_le_self _ _) ha
  ·split
   ·rw [BitVec.le_def] at ha ⊢
    rw [BitVec.toNat_umod]
    exact Nat.le_trans (Nat.mod_le _ _) ha
   ·split
    ·exact and_le' _ _
    ·exact and_le' _ _
theorem two_le {o : BitVec 8} {w : Int} {a b : BitVec 64} (ha : fitF w a = true) (hb : fitF w b = true) : twoV o w a b ≤ maskF w := by
 cases h : isDiv o
 ·simp only [isDiv, Bool.or_eq_false_iff] at h
  exact le_of_fit (two_fits ha hb h.1.1.1 h.1.1.2 h.1.2 h.2)
 ·simp only [isDiv, Bool.or_eq_true, beq_iff_eq] at h
  have hl := le_of_fit ha
  rcases h with ((rfl | rfl) | rfl) | rfl <;> exact div_fits _ hl
def L0 (m : Int) : Lf where
 mx := m
 thC := fun o w a b => mayF w [a, b] && thanB o w a b
 ftC := Fl.fthV
 twB := fun o w a b => twoE o w a b == 6
 cuB := fun f t s a => !(L23C.fitV f t s a)
 alB := fun w a b => okW w && noZero (listF a b w)
 has := hasF
theorem w130 (m : Int) : Snd 130 (thanLf (L0 m).thC) := Sound.weakG t_Than fun ds d' h => by
 split at h
 ·rename_i o w a b
  simp only [Option.some.injEq, Prod.mk.injEq, gThan, Bool.and_eq_true] at h
  obtain ⟨⟨⟨hw, ho⟩, ha, hb⟩, rfl⟩ := h
  refine ⟨_, rfl, ?_⟩
  have hm := may2 (fit_sc hw ha) (fit_sc hw hb)
  exact tup_ok (Wk.refl _) (by rw [hm, than_in o ho]; rfl)
 ·cases h
theorem w131 (m : Int) : Snd 131 (fthanLf (L0 m).ftC) := Sound.weakG L23F.f_than fun ds d' h => by
 split at h
 ·rename_i o w a b
  simp only [Option.some.injEq, Prod.mk.injEq, gFth, Bool.and_eq_true] at h
  obtain ⟨⟨⟨hw, ho⟩, ha, hb⟩, rfl⟩ := h
  refine ⟨_, rfl, ?_⟩
  exact tup_ok (Wk.refl _) (by rw [Fl.fthE, if_pos (maW2 hw ha hb), fth_in o ho])
 ·cases h
theorem w132 : Snd 132 oneLf := Sound.weakG t_One fun ds d' h => by
 split at h
 ·rename_i o w a
  simp only [Option.some.injEq, Prod.mk.injEq, gOne, Bool.and_eq_true] at h
  obtain ⟨⟨⟨hw, ho⟩, ha⟩, rfl⟩ := h
  refine ⟨_, rfl, ?_⟩
  have hm := may1 (fit_sc hw ha)
  refine tup_ok (u_unk hw ?_) (by rw [oneR, if_pos hm, cnt_in o ho])
  rw [oneN, hm]
  exact le_of_fit (one_fits (fit_sc hw ha))
 ·cases h
theorem w128 : Snd 128 foneLf := Sound.weakG L23F.f_one fun ds d' h => by
 split at h
 ·rename_i o w a
  simp only [Option.some.injEq, Prod.mk.injEq, gFon, Bool.and_eq_true] at h
  obtain ⟨⟨⟨hw, ho⟩, ha⟩, rfl⟩ := h
  refine ⟨_, rfl, ?_⟩
  refine tup_ok (u_unk hw (L23X.good_one.fits o w a (wOK_sc hw))) ?_
  rw [L23F.onE, if_pos (by rw [inF1 hw ha, fon_in o ho]; rfl)]
 ·cases h
theorem w129 : Snd 129 ftwoLf := Sound.weakG L23F.f_two fun ds d' h => by
 split at h
 ·rename_i o w a b
  simp only [Option.some.injEq, Prod.mk.injEq, gFtw, Bool.and_eq_true] at h
  obtain ⟨⟨⟨hw, ho⟩, ha, hb⟩, rfl⟩ := h
  refine ⟨_, rfl, ?_⟩
  exact tup_ok (u_unk hw (Fl.tw_fits (wOK_sc hw) o a b)) (by rw [Fl.ftwE, if_pos (maW2 hw ha hb), ftw_in' o ho])
 ·cases h
theorem w133 (m : Int) : Snd 133 (twoLf (L0 m).twB) := Sound.weakT t_Two fun ds b d' h => by
 split at h
 ·rename_i o w a c
  simp only [Option.some.injEq, Prod.mk.injEq, gTwo, Bool.and_eq_true] at h
  obtain ⟨⟨⟨hw, ho⟩, ha, hb⟩, rfl, rfl⟩ := h
  refine ⟨_, rfl, ?_⟩
  have hm := may2 (fit_sc hw ha) (fit_sc hw hb)
  obtain ⟨e1, e2⟩ := two_err ho w a c
  have er : twoR o w a c = twoE o w a c := by rw [twoR, if_pos hm]
  have hok : twoE o w a c = 0 → Wk (.tup [.u64 (twoN o w a c), .i .i64 (twoR o w a c)]) (.tup [unk w, .i .i64 0]) := fun h0 => by
   refine tup_ok (u_unk hw ?_) (er.trans h0)
   rw [twoN, hm]
   exact two_le (fit_sc hw ha) (fit_sc hw hb)
  cases hd : isDiv o
  ·exact hok (e1 hd)
  ·rcases e2 with h0 | h6
   ·have : (twoE o w a c == 6) = false := by rw [h0]; rfl
    show Wk _ (if (true && (twoE o w a c == 6)) = true then _ else _)
    rw [this]
    exact hok h0
   ·have : (twoE o w a c == 6) = true := by rw [h6]; rfl
    show Wk _ (if (true && (twoE o w a c == 6)) = true then _ else _)
    rw [this]
    exact tup_six (er.trans h6)
 ·cases h
theorem ext_le {f t : Int} (ht : wSc t = true) (hft : f ≤ t) (hf : okW f = true) {a : BitVec 64} (ha : a ≤ maskF f) (s : Bool) : extF f t s a ≤ maskF t := by
 unfold extF
 split
 ·exact and_le' _ _
 ·refine BitVec.le_trans ha ?_
  rcases wSc_cases ht with rfl | rfl
  ·rcases okW_cases hf with rfl | rfl | rfl | rfl
   ·decide
   ·decide
   ·decide
   ·omega
  ·exact le_64 _
theorem w29 : Snd 29 extLf := Sound.weakG t_Extend fun ds d' h => by
 split at h
 ·rename_i f t s a
  simp only [Option.some.injEq, Prod.mk.injEq, gExt, Bool.and_eq_true, decide_eq_true_eq] at h
  obtain ⟨⟨⟨⟨ht, hf⟩, hft⟩, ha⟩, rfl⟩ := h
  have hl := fw_le8 hf ha
  have hk : Go.Wh.okE f t a = true := by simp [Go.Wh.okE, fitF, hf, hl, okW_sc ht]; omega
  refine ⟨_, rfl, ?_⟩
  refine tup_ok (u_unk ht ?_) (by rw [hk]; rfl)
  rw [hk]
  exact ext_le ht hft hf hl s
 ·cases h
theorem w124 (m : Int) : Snd 124 (cutLf (L0 m).cuB) := Sound.weakT L23C.t_Cut fun ds b d' h => by
 split at h
 ·rename_i f t s a
  simp only [Option.some.injEq, Prod.mk.injEq] at h
  obtain ⟨hg, rfl, rfl⟩ := h
  obtain ⟨hm, hf, ht⟩ := mayC_sc hg
  refine ⟨_, rfl, ?_⟩
  show Wk _ (if (!(L23C.fitV f t s a)) = true then _ else _)
  cases hv : L23C.fitV f t s a
  ·exact tup_six (by rw [if_pos hm]; rfl)
  ·refine tup_ok (u_unk ht ?_) (by rw [if_pos hm]; rfl)
   have := L23C.held_fits (f := f) (wOK_sc ht) s a
   rw [L23C.hV, hm] at this
   rw [hm]
   exact this
 ·cases h
theorem w53 : Snd 53 heldLf := Sound.weakG L23C.t_Held fun ds d' h => by
 split at h
 ·rename_i f t s a
  simp only [Option.some.injEq, Prod.mk.injEq] at h
  obtain ⟨hg, rfl⟩ := h
  obtain ⟨hm, hf, ht⟩ := mayC_sc hg
  refine ⟨_, rfl, ?_⟩
  exact tup_ok (u_unk ht (L23C.held_fits (f := f) (wOK_sc ht) s a)) (by rw [hm]; rfl)
 ·cases h
theorem w125 : Snd 125 fltLf := Sound.weakG L23C.t_Float fun ds d' h => by
 split at h
 ·rename_i f t s a
  simp only [Option.some.injEq, Prod.mk.injEq] at h
  obtain ⟨hg, rfl⟩ := h
  obtain ⟨hm, hf, ht⟩ := mayC_sc hg
  refine ⟨_, rfl, ?_⟩
  exact tup_ok (u_unk ht (L23C.float_fits (f := f) (wOK_sc ht) s a)) (by rw [hm]; rfl)
 ·cases h
theorem w127 : Snd 127 proLf := Sound.weakG L23C.t_Pro fun ds d' h => by
 split at h
 ·rename_i a
  simp only [Option.some.injEq, Prod.mk.injEq] at h
  obtain ⟨ha, rfl⟩ := h
  refine ⟨_, rfl, ?_⟩
  exact tup_ok (u_U _) (by rw [fitC_sc (w := 32) (by decide) ha]; rfl)
 ·cases h
end Go.L23
set_option maxRecDepth 100000
namespace Go.L23
open Go.Ev Go.Proofs Go.RowKit Go.Wh
theorem tup_vec {a b : BitVec 64} {e : Int} (he : e = 0) : Wk (.tup [vec a b, .i .i64 e]) (.tup [anyV, .i .i64 0]) := tup_ok (vec_any a b) he
theorem each_any {b : Bool} (w : Int) (l : List (BitVec 64)) (h : b = true) : Wk (eachB b w l) (.tup [anyV, .i .i64 0]) := tup_vec (by rw [h]; rfl)
theorem w109 : Snd 109 ofbLf := Sound.weakG ofBytes26 fun ds d' h => by
 split at h
 ·rename_i l
  simp only [Option.some.injEq, Prod.mk.injEq, beq_iff_eq] at h
  obtain ⟨hl, rfl⟩ := h
  match l, hl with
  | [b0, b1, b2, b3, b4, b5, b6, b7, b8, b9, b10, b11, b12, b13, b14, b15], _ => exact ⟨_, rfl, vec_any _ _⟩
 ·cases h
theorem w110 : Snd 110 shuLf := Sound.weakG Shuf36 fun ds d' h => by
 split at h
 ·rename_i a0 a1 b0 b1 l
  simp only [Option.some.injEq, Prod.mk.injEq, Bool.and_eq_true, beq_iff_eq] at h
  obtain ⟨⟨hl, ha⟩, rfl⟩ := h
  refine ⟨.tup [vec (ifF (okSh l) (shLo a0 a1 b0 b1 l)) (ifF (okSh l) (shHi a0 a1 b0 b1 l)), .i .i64 (errF (okSh l))], ?_, ?_⟩
  ·simp only [ShufS, guarded, hl, decide_true, if_true]
  ·exact tup_vec (by rw [show okSh l = true from ha]; rfl)
 ·cases h
theorem w111 : Snd 111 swzLf := Sound.weakJ Swiz38 fun ds d' h => by
 split at h
 ·cases h
  exact ⟨_, rfl, vec_any _ _⟩
 ·cases h
theorem w31 : Snd 31 splLf := Sound.weakG Spl23 fun ds d' h => by
 split at h
 ·rename_i w n
  simp only [Option.some.injEq, Prod.mk.injEq, Bool.and_eq_true] at h
  obtain ⟨⟨hw, hn⟩, rfl⟩ := h
  refine ⟨_, rfl, tup_vec ?_⟩
  have : isF w n = true := by simp [isF, hw, fw_le8 hw hn]
  rw [this]; rfl
 ·cases h
theorem okI_w {w i : Int} (h : okI w i = true) : okW w = true := by
 simp only [okI, Bool.and_eq_true] at h
 exact h.1.1
theorem w32 : Snd 32 setLf := Sound.weakG Set15 fun ds d' h => by
 split at h
 ·rename_i w i n
  simp only [Option.some.injEq, Prod.mk.injEq, Bool.and_eq_true] at h
  obtain ⟨⟨hi, hn⟩, rfl⟩ := h
  refine ⟨_, rfl, tup_vec ?_⟩
  have : okS w i n = true := by simp [okS, hi, fw_le8 (okI_w hi) hn]
  rw [this]; rfl
 ·cases h
theorem w47 : Snd 47 getLf := Sound.weakG Get13 fun ds d' h => by
 split at h
 ·rename_i a0 a1 w i
  simp only [Option.some.injEq, Prod.mk.injEq] at h
  obtain ⟨hi, rfl⟩ := h
  refine ⟨_, rfl, ?_⟩
  rw [hi]
  exact Wk.refl _
 ·cases h
theorem okT_yes {o : BitVec 8} {w : Int} (hw : okW w = true) (ho : inVtwo o w = true) (a0 a1 b0 b1 : BitVec 64) : okT twoN twoR o w a0 a1 b0 b1 = true := by
 have hx : exclB o = false ∧ ∀ a b, mayF w [a, b] = true → twoE o w a b = 0 := by
  have h : ∀ o : BitVec 8, (∃ w : Int, inVtwo o w = true) → (o == 1#8 || o == 2#8 || o == 3#8 || o == 16#8 || o == 17#8 || o == 18#8 || o == 19#8 || o == 20#8 || o == 21#8 || o == 22#8 || o == 23#8 || o == 24#8 || o == 25#8) = true := by
   intro o ⟨w, hw⟩
   have key : ∀ (o : BitVec 8) (c : Bool), ((o == 1#8 || o == 2#8 || o == 3#8) || decide (16 ≤ o.toNat) && decide (o.toNat ≤ 24) || o == 25#8 && c) = true → (o == 1#8 || o == 2#8 || o == 3#8 || o == 16#8 || o == 17#8 || o == 18#8 || o == 19#8 || o == 20#8 || o == 21#8 || o == 22#8 || o == 23#8 || o == 24#8 || o == 25#8) = true := by decide +kernel
   exact key o _ hw
  have h2 := h o ⟨w, ho⟩
  simp only [Bool.or_eq_true, beq_iff_eq] at h2
  rcases h2 with (((((((((((rfl | rfl) | rfl) | rfl) | rfl) | rfl) | rfl) | rfl) | rfl) | rfl) | rfl) | rfl) | rfl
  all_goals first
   | exact ⟨by decide, fun a b _ => rfl⟩
   | exact ⟨by decide, fun a b _ => if_pos (show (w == 16) = true by simpa [inVtwo] using ho)⟩
 obtain ⟨he, hE⟩ := hx
 have fa := list_fit (x := a0) (y := a1) hw
 have fb := list_fit (x := b0) (y := b1) hw
 have hz : ∀ x ∈ listF a0 a1 w, ∀ y ∈ listF b0 b1 w, twoR o w x y = 0 := fun x hx y hy => by
  have hm := may2 (fa x hx) (fb y hy)
  rw [twoR, if_pos hm]
  exact hE x y hm
 have h0 := zip_all0 (f := twoR o w) _ _ hz
 have h1 := zip_all (R := twoR o w) (N := twoN o w) (m := maskF w) (fun x y hxy => fits2_two o w x y hw he hxy) _ _ h0
 simp only [okT, okEach, okOf, he, rT, lT, h0, hw, zip_len, decide_true, Bool.not_false, Bool.true_and]
 exact h1
theorem w266 : Snd 266 vtwoLf := Sound.weakG t_V13 fun ds d' h => by
 split at h
 ·rename_i o w a0 a1 b0 b1
  simp only [Option.some.injEq, Prod.mk.injEq, Bool.and_eq_true] at h
  obtain ⟨⟨hw, ho⟩, rfl⟩ := h
  exact ⟨_, rfl, each_any _ _ (okT_yes hw ho a0 a1 b0 b1)⟩
 ·cases h
theorem w269 : Snd 269 voneLf := Sound.weakG t_V19 fun ds d' h => by
 split at h
 ·rename_i o w a0 a1
  simp only [Option.some.injEq, Prod.mk.injEq, Bool.and_eq_true] at h
  obtain ⟨⟨hw, ho⟩, rfl⟩ := h
  exact ⟨_, rfl, each_any _ _ (okU_yes fits1_one hw (von_in o ho) a0 a1)⟩
 ·cases h
theorem w271 : Snd 271 vshLf := Sound.weakG t_V21 fun ds d' h => by
 split at h
 ·rename_i o w a0 a1 n
  simp only [Option.some.injEq, Prod.mk.injEq, Bool.and_eq_true] at h
  obtain ⟨⟨hw, ho⟩, rfl⟩ := h
  exact ⟨_, rfl, each_any _ _ (okMv_yes fitsS_two hw (vsh_in o ho) a0 a1 n)⟩
 ·cases h
theorem w195 (m : Int) : Snd 195 (allLf (L0 m).alB) := Sound.weakG t_vAll fun ds d' h => by
 split at h
 ·rename_i w a0 a1
  simp only [Option.some.injEq, Prod.mk.injEq] at h
  obtain ⟨hw, rfl⟩ := h
  exact ⟨_, rfl, tup_ok (Wk.refl _) (by rw [hw]; rfl)⟩
 ·cases h
theorem sh_one {w : Int} (hw : okW w = true) {x : BitVec 64} (hx : x ≤ maskF w) : (x >>> (BitVec.ofInt 64 (IntKind.i64.wrap (w - 1))).toNat).toNat < 2 := by
 rw [BitVec.le_def] at hx
 rw [BitVec.toNat_ushiftRight, Nat.shiftRight_eq_div_pow]
 rcases okW_cases hw with rfl | rfl | rfl | rfl
 ·have e1 : (maskF 8).toNat = 255 := by decide
  have e2 : (BitVec.ofInt 64 (IntKind.i64.wrap (8 - 1))).toNat = 7 := by decide
  rw [e2]; omega
 ·have e1 : (maskF 16).toNat = 65535 := by decide
  have e2 : (BitVec.ofInt 64 (IntKind.i64.wrap (16 - 1))).toNat = 15 := by decide
  rw [e2]; omega
 ·have e1 : (maskF 32).toNat = 4294967295 := by decide
  have e2 : (BitVec.ofInt 64 (IntKind.i64.wrap (32 - 1))).toNat = 31 := by decide
  rw [e2]; omega
 ·have e2 : (BitVec.ofInt 64 (IntKind.i64.wrap (64 - 1))).toNat = 63 := by decide
  have := x.isLt
  rw [e2]; omega
theorem hi_lt {w : Int} (hw : okW w = true) : ∀ (l : List (BitVec 64)) (i : Nat) (n : BitVec 64), i + l.length ≤ 32 → n.toNat < 2 ^ i → (∀ x ∈ l, x ≤ maskF w) → (hiBits w i n l).toNat < 2 ^ (i + l.length)
 | [], i, n, _, hn, _ => by simpa [hiBits] using hn
 | x :: l, i, n, hi, hn, hx => by
  simp only [List.length_cons] at hi ⊢
  have hone := sh_one hw (hx x List.mem_cons_self)
  have ei : (BitVec.ofInt 64 (i : Int)).toNat = i := by
   rw [BitVec.toNat_ofInt]
   omega
  have step : (n ||| (x >>> (BitVec.ofInt 64 (IntKind.i64.wrap (w - 1))).toNat) <<< (BitVec.ofInt 64 (i : Int)).toNat).toNat < 2 ^ (i + 1) := by
   rw [ei, BitVec.toNat_or, BitVec.toNat_shiftLeft]
   have hp : 2 ^ i ≤ 2 ^ 31 := Nat.pow_le_pow_right (by decide) (by omega)
   refine Nat.or_lt_two_pow (by rw [Nat.pow_succ]; omega) ?_
   rw [Nat.shiftLeft_eq]
   generalize (x >>> (BitVec.ofInt 64 (IntKind.i64.wrap (w - 1))).toNat).toNat = b at hone
   have hb : b * 2 ^ i ≤ 1 * 2 ^ i := Nat.mul_le_mul_right _ (by omega)
   refine Nat.lt_of_le_of_lt (Nat.mod_le _ _) ?_
   rw [Nat.pow_succ]
   have : 0 < 2 ^ i := Nat.two_pow_pos i
   omega
  have := hi_lt hw l (i + 1) _ (by omega) step fun y hy => hx y (List.mem_cons_of_mem _ hy)
  simp only [hiBits]
  rw [show i + (l.length + 1) = i + 1 + l.length by omega]
  exact this
theorem w196 : Snd 196 maskLf := Sound.weakG t_vMask fun ds d' h => by
 split at h
 ·rename_i w a0 a1
  simp only [Option.some.injEq, Prod.mk.injEq] at h
  obtain ⟨hw, rfl⟩ := h
  refine ⟨_, rfl, tup_ok (u_32 ?_) (by rw [hw]; rfl)⟩
  have hl : (listF a0 a1 w).length ≤ 16 := by
   rw [listF_length]
   rcases okW_cases hw with rfl | rfl | rfl | rfl <;> decide
  have := hi_lt hw (listF a0 a1 w) 0 0#64 (by omega) (by decide) fun x hx => le_of_fit (list_fit hw x hx)
  rw [ifF, if_pos hw, BitVec.le_def]
  have hp : 2 ^ (0 + (listF a0 a1 w).length) ≤ 2 ^ 16 := Nat.pow_le_pow_right (by decide) (by omega)
  have e : (4294967295#64).toNat = 4294967295 := rfl
  omega
 ·cases h
theorem w198 : Snd 198 narLf := Sound.weakG t_vNar fun ds d' h => by
 split at h
 ·rename_i w s a0 a1 b0 b1
  simp only [Option.some.injEq, Prod.mk.injEq] at h
  obtain ⟨hw, rfl⟩ := h
  exact ⟨_, rfl, each_any _ _ hw⟩
 ·cases h
theorem w30 : Snd 30 widLf := Sound.weakG t_vWide fun ds d' h => by
 split at h
 ·rename_i w s k a0 a1
  simp only [Option.some.injEq, Prod.mk.injEq] at h
  obtain ⟨hw, rfl⟩ := h
  exact ⟨_, rfl, each_any _ _ hw⟩
 ·cases h
theorem w199 : Snd 199 timLf := Sound.weakG t_vTim fun ds d' h => by
 split at h
 ·rename_i w s k a0 a1 b0 b1
  simp only [Option.some.injEq, Prod.mk.injEq] at h
  obtain ⟨hw, rfl⟩ := h
  exact ⟨_, rfl, each_any _ _ hw⟩
 ·cases h
theorem w200 : Snd 200 prsLf := Sound.weakG t_vPrs fun ds d' h => by
 split at h
 ·rename_i w s a0 a1
  simp only [Option.some.injEq, Prod.mk.injEq] at h
  obtain ⟨hw, rfl⟩ := h
  exact ⟨_, rfl, each_any _ _ hw⟩
 ·cases h
theorem w201 : Snd 201 dotLf := Sound.weakJ t_vDot fun ds d' h => by
 split at h
 ·cases h
  exact ⟨_, rfl, each_any _ _ rfl⟩
 ·cases h
theorem zip_ok {N : BitVec 64 → BitVec 64 → BitVec 64} {m : BitVec 64} : ∀ l k : List (BitVec 64), (∀ x ∈ l, ∀ y ∈ k, N x y ≤ m) → (List.zipWith N l k).all (fun z => decide (z ≤ m)) = true
 | [], _, _ => by simp
 | _ :: _, [], _ => by simp
 | x :: l, y :: k, h => by
  simp only [List.zipWith_cons_cons, List.all_cons, decide_eq_true (h x List.mem_cons_self y List.mem_cons_self), Bool.true_and]
  exact zip_ok l k fun a ha b hb => h a (List.mem_cons_of_mem _ ha) b (List.mem_cons_of_mem _ hb)
theorem thv_le {C : C2} {E : E2} (o : BitVec 8) (w : Int) (x y : BitVec 64) : thV C E o w x y ≤ maskF w := by
 unfold thV
 repeat' split
 all_goals first | exact BitVec.le_refl _ | (rw [BitVec.le_def]; exact Nat.zero_le _)
def thanCr : C2 := fun o w a b => mayF w [a, b] && thanB o w a b
def thanEr : E2 := fun o w a b => errF (mayF w [a, b] && thanO o)
theorem t_ThanH : Snd 130 (ThanH thanCr thanEr) := Sound.weakJ t_Than fun ds d' h => by
 split at h
 ·cases h
  exact ⟨_, rfl, Wk.refl _⟩
 ·cases h
theorem w104 : Snd 104 vthanLf := Sound.weakG (t_vThan t_ThanH) fun ds d' h => by
 split at h
 ·rename_i o w a0 a1 b0 b1
  simp only [Option.some.injEq, Prod.mk.injEq, Bool.and_eq_true] at h
  obtain ⟨⟨hw, ho⟩, rfl⟩ := h
  refine ⟨_, rfl, each_any _ _ ?_⟩
  have fa := list_fit (x := a0) (y := a1) hw
  have fb := list_fit (x := b0) (y := b1) hw
  have h0 : (rT thanEr o w a0 a1 b0 b1).all (fun r => r == 0) = true := zip_all0 _ _ fun x hx y hy => by
   have hm := may2 (fa x hx) (fb y hy)
   simp [thanEr, hm, than_in o ho, errF]
  have h1 : (lV thanCr thanEr o w a0 a1 b0 b1).all (fun z => decide (z ≤ maskF w)) = true := zip_ok _ _ fun x _ y _ => thv_le o w x y
  simp only [okEach, h0, okOf, hw, h1, Bool.and_true, Bool.true_and, decide_eq_true_eq]
  unfold lV
  rw [zip_len]
 ·cases h
end Go.L23
set_option maxRecDepth 100000
namespace Go.L23
open Go.Ev Go.Proofs Go.RowKit Go.Wh
theorem okEachX {w : Int} {rs : List Int} {l : List (BitVec 64)} (hw : wSc w = true) (h0 : rs.all (fun r => r == 0) = true) (hl : l.length = (128 / w).toNat) (h1 : l.all (fun z => decide (z ≤ maskF w)) = true) : L23X.okEach w rs l = true := by
 simp only [L23X.okEach, wOK_sc hw, h0, okOf, okW_sc hw, hl, h1, decide_true, Bool.true_and]
theorem fw_list {w : Int} (hw : wSc w = true) {a0 a1 x : BitVec 64} (hx : x ∈ listF a0 a1 w) : fw w x = true := by
 have := le_of_fit (list_fit (okW_sc hw) x hx)
 simp [fw, this]
theorem w103 : Snd 103 vftwLf := Sound.weakG L23X.v_two fun ds d' h => by
 split at h
 ·rename_i o w a0 a1 b0 b1
  simp only [Option.some.injEq, Prod.mk.injEq, Bool.and_eq_true] at h
  obtain ⟨⟨hw, ho⟩, rfl⟩ := h
  refine ⟨_, rfl, tup_vec ?_⟩
  have hk : L23X.okV Fl.ftwV Fl.ftwE o w a0 a1 b0 b1 = true := okEachX hw
   (zip_all0 _ _ fun x hx y hy => by rw [Fl.ftwE, if_pos (maW2 hw (fw_list hw hx) (fw_list hw hy)), ftw_in o ho])
   (zip_len _ _ _ _ _ _) (zip_ok _ _ fun x _ y _ => Fl.tw_fits (wOK_sc hw) o x y)
  rw [L23X.eV, hk]; rfl
 ·cases h
theorem w113 : Snd 113 vfthLf := Sound.weakG L23X.v_than fun ds d' h => by
 split at h
 ·rename_i o w a0 a1 b0 b1
  simp only [Option.some.injEq, Prod.mk.injEq, Bool.and_eq_true] at h
  obtain ⟨⟨hw, ho⟩, rfl⟩ := h
  refine ⟨_, rfl, tup_vec ?_⟩
  have hk : L23X.okV (L23X.thV Fl.fthV Fl.fthE) Fl.fthE o w a0 a1 b0 b1 = true := okEachX hw
   (zip_all0 _ _ fun x hx y hy => by rw [Fl.fthE, if_pos (maW2 hw (fw_list hw hx) (fw_list hw hy)), fth_in o ho])
   (zip_len _ _ _ _ _ _) (zip_ok _ _ fun x _ y _ => L23X.th_fits Fl.fthV Fl.fthE o w x y)
  rw [L23X.eV, hk]; rfl
 ·cases h
theorem map_all {f : BitVec 64 → Int} {l : List (BitVec 64)} (h : ∀ x ∈ l, f x = 0) : (l.map f).all (fun r => r == 0) = true := by
 simp only [List.all_eq_true, List.mem_map, beq_iff_eq]
 rintro _ ⟨x, hx, rfl⟩
 exact h x hx
theorem map_ok {f : BitVec 64 → BitVec 64} {m : BitVec 64} {l : List (BitVec 64)} (h : ∀ x ∈ l, f x ≤ m) : (l.map f).all (fun z => decide (z ≤ m)) = true := by
 simp only [List.all_eq_true, List.mem_map, decide_eq_true_eq]
 rintro _ ⟨x, hx, rfl⟩
 exact h x hx
theorem w105 : Snd 105 vfonLf := Sound.weakG L23X.v_one fun ds d' h => by
 split at h
 ·rename_i o w a0 a1
  simp only [Option.some.injEq, Prod.mk.injEq, Bool.and_eq_true] at h
  obtain ⟨⟨hw, ho⟩, rfl⟩ := h
  refine ⟨_, rfl, tup_vec ?_⟩
  have hk : L23X.okU L23F.onV L23F.onE o w a0 a1 = true := okEachX hw
   (map_all fun x hx => by rw [L23F.onE, if_pos (by rw [inF1 hw (fw_list hw hx), fon_in o ho]; rfl)])
   (by rw [L23X.lO, List.length_map, listF_length]) (map_ok fun x _ => L23X.good_one.fits o w x (wOK_sc hw))
  rw [L23X.eU, hk]; rfl
 ·cases h
theorem w101 : Snd 101 vfflLf := Sound.weakG L23X.v_flt fun ds d' h => by
 split at h
 ·rename_i w s a0 a1
  simp only [Option.some.injEq, Prod.mk.injEq] at h
  obtain ⟨hw, rfl⟩ := h
  exact ⟨_, rfl, tup_vec (by rw [L23X.vcE, wOK_sc hw]; rfl)⟩
 ·cases h
theorem w102 : Snd 102 vfcuLf := Sound.weakG L23X.v_cut fun ds d' h => by
 split at h
 ·rename_i w s a0 a1
  simp only [Option.some.injEq, Prod.mk.injEq] at h
  obtain ⟨hw, rfl⟩ := h
  exact ⟨_, rfl, tup_vec (by rw [L23X.vcE, wOK_sc hw]; rfl)⟩
 ·cases h
noncomputable def proG (V : BitVec 64 → BitVec 64) (E : BitVec 64 → Int) : Ev.Spec := joined fun | [.u64 a] => some (.tup [.u64 (V a), .i .i64 (E a)]) | _ => none
theorem t_proG : Snd 127 (proG (fun a => ifF (L23C.fitC 32 a) (L23C.proV a)) (fun a => errF (L23C.fitC 32 a))) := Sound.weakJ L23C.t_Pro fun ds d' h => by
 split at h
 ·cases h
  exact ⟨_, rfl, Wk.refl _⟩
 ·cases h
theorem nf_118 (V : BitVec 64 → BitVec 64) (E : BitVec 64 → Int) (a0 a1 : BitVec 64) : ex [(187, L23X.fourS), (127, proG V E)] (fun _ => []) Tryz.f118 [vec a0 a1] some = some (vec (V (getF a0 a1 32 0)) (V (getF a0 a1 32 1))) := by kernel_rfl
theorem w118 : Snd 118 vdpLf := Sound.weakJ (execFn_sound (ann := fun _ => []) (TableOK.cons L23X.t_four (TableOK.cons t_proG TableOK.nil)) mixed Tryz.func118 (by kernel_rfl) 50) fun ds d' h => by
 split at h
 ·rename_i a0 a1
  cases h
  exact ⟨_, nf_118 _ _ a0 a1, vec_any _ _⟩
 ·cases h
theorem wrap_u64 {n : Int} (h1 : 0 ≤ n) (h2 : n < 18446744073709551616) : IntKind.u64.wrap n = n := by
 have e : IntKind.u64.wrap n = n % 18446744073709551616 := by simp [IntKind.wrap, IntKind.signed, IntKind.bits]
 rw [e]; omega
theorem set32_le (x : BitVec 32) : BitVec.setWidth 64 x ≤ 4294967295#64 := by
 rw [BitVec.le_def, BitVec.toNat_setWidth]
 have := x.isLt
 have e : (4294967295#64).toNat = 4294967295 := rfl
 have : x.toNat % 2 ^ 64 = x.toNat := Nat.mod_eq_of_lt (by omega)
 omega
open L23C Fl in
theorem w126 : Snd 126 demLf := by
 refine Sound.of_pt fun ds d hd => ?_
 split at hd
 ·rename_i a
  cases hd
  cases hn : isNW 64 a
  ·have go : ∀ d, Wk d (.xi .u64 p32) → f2sT (Ieee.double.read a.toNat) demK = some (.tup [d, .i .i64 0]) → Pt Tryz.prog G0 126 [.u64 a] (.tup [.xi .u64 p32, .i .i64 0]) := fun d hk h => Pt.weak (dem_go hn h) (tup_w hk)
   cases hf : fin Ieee.double a.toNat
   ·have e := read_infty two_d hf hn
    refine go (.u64 (BitVec.setWidth 64 (BitVec.ofNat 32 (FloatKind.f32.encode (.infinity (ng Ieee.double a.toNat)))))) (u_32 (set32_le _)) ?_
    rw [e]
    show demK (.f .f32 (FloatKind.f32.encode (.infinity (ng Ieee.double a.toNat)))) = _
    unfold demK
    refine if_pos (decide_eq_true ?_)
    exact word_lt Ieee.single _ (inf_lt Ieee.single)
   ·have e := read_fin hf
    have hlt : FloatKind.f32.encode (.number (ng Ieee.double a.toNat) (mg Ieee.double a.toNat) (pl Ieee.double a.toNat)) < 2 ^ 32 := nearest_lt Ieee.single _ _ _
    by_cases hi : (FloatKind.f32.decode (FloatKind.f32.encode (.number (ng Ieee.double a.toNat) (mg Ieee.double a.toNat) (pl Ieee.double a.toNat)))).isInfinity = true
    ·refine go (.xi .u64 (fun m => ∃ n : Int, (∃ x : Nat, n = (x : Int) ∧ x < 2 ^ 32) ∧ m = IntKind.u64.wrap n)) ?_ ?_
     ·intro own w v h
      simp only [lies] at h ⊢
      obtain ⟨n, rfl, k, ⟨x, rfl, hx⟩, rfl⟩ := h
      refine ⟨_, rfl, ?_⟩
      rw [wrap_u64 (by omega) (by omega)]
      exact ⟨by omega, by omega⟩
     ·rw [e]
      exact if_pos hi
    ·refine go (.u64 (BitVec.setWidth 64 (BitVec.ofNat 32 (FloatKind.f32.encode (.number (ng Ieee.double a.toNat) (mg Ieee.double a.toNat) (pl Ieee.double a.toNat)))))) (u_32 (set32_le _)) ?_
     rw [e]
     exact (if_neg hi).trans (if_pos (decide_eq_true hlt))
  ·exact Pt.weak (dem_nan hn) (tup_w (u_32 (by decide)))
 ·cases hd
noncomputable def allB (p : Int → Prop) : Bool := @decide (∀ n, p n → pU n) (Classical.propDecidable _)
noncomputable def ofW : Ev.Spec := guarded fun | [.agg [.xi .u64 p, .xi .u64 q, .u64 _, .u64 _]] => some (allB p && allB q, anyV) | _ => none
theorem of_pU {n : Int} (h : pU n) : ∃ x : BitVec 64, n = (x.toNat : Int) := by
 obtain ⟨h1, h2⟩ := h
 refine ⟨BitVec.ofNat 64 n.toNat, ?_⟩
 rw [BitVec.toNat_ofNat, Nat.mod_eq_of_lt (by omega)]
 omega
theorem t_ofW : Snd 188 ofW := by
 refine Sound.of_ptG fun ds d h => ?_
 split at h
 ·rename_i p q a b
  simp only [Option.some.injEq, Prod.mk.injEq, Bool.and_eq_true, allB, decide_eq_true_eq] at h
  obtain ⟨⟨hp, hq⟩, rfl⟩ := h
  intro w args hG hl
  simp only [lie, lies] at hl
  obtain ⟨v, t, rfl, ⟨cs, rfl, v1, t1, rfl, ⟨n1, rfl, h1⟩, v2, t2, rfl, ⟨n2, rfl, h2⟩, v3, t3, rfl, rfl, v4, t4, rfl, rfl, rfl⟩, rfl⟩ := hl
  obtain ⟨x1, rfl⟩ := of_pU (hp n1 h1)
  obtain ⟨x2, rfl⟩ := of_pU (hq n2 h2)
  have hp4 : Pt Tryz.prog G0 188 [.a64 [x1, x2, a, b]] anyV := Pt.weak (L23X.t_of4.pt rfl) (vec_any _ _)
  exact hp4 w _ hG (by simp only [lie, lies]; exact ⟨_, _, rfl, rfl, rfl⟩)
 ·cases h
theorem nf_117 (a0 a1 : BitVec 64) : ex [(126, demLf), (188, ofW)] (fun _ => []) Tryz.f117 [vec a0 a1] some = if (allB p32 && allB p32) = true then some anyV else none := by kernel_rfl
theorem allB_p32 : allB p32 = true := @decide_eq_true _ (Classical.propDecidable _) fun n h => ⟨h.1, by have := h.2; omega⟩
theorem w117 : Snd 117 vdpLf := Sound.weakJ (execFn_sound (ann := fun _ => []) (TableOK.cons w126 (TableOK.cons t_ofW TableOK.nil)) mixed Tryz.func117 (by kernel_rfl) 50) fun ds d' h => by
 split at h
 ·rename_i a0 a1
  cases h
  refine ⟨_, (nf_117 a0 a1).trans ?_, Wk.refl _⟩
  rw [allB_p32]; rfl
 ·cases h
theorem nf_114 (o : BitVec 8) (x0 x1 y0 y1 z0 z1 : BitVec 64) : ex [] (fun _ => []) Tryz.f114 [.u8 o, vec x0 x1, vec y0 y1, vec z0 z1] some =
 if (o == 1#8) = true then some (.tup [vec (~~~x0) (~~~x1), .i .i64 0]) else if (o == 2#8) = true then some (.tup [vec (x0 &&& y0) (x1 &&& y1), .i .i64 0]) else if (o == 3#8) = true then some (.tup [vec (x0 &&& ~~~y0) (x1 &&& ~~~y1), .i .i64 0])
 else if (o == 4#8) = true then some (.tup [vec (x0 ||| y0) (x1 ||| y1), .i .i64 0]) else if (o == 5#8) = true then some (.tup [vec (x0 ^^^ y0) (x1 ^^^ y1), .i .i64 0])
 else if (o == 6#8) = true then some (.tup [vec (x0 &&& z0 ||| y0 &&& ~~~z0) (x1 &&& z1 ||| y1 &&& ~~~z1), .i .i64 0]) else some (.tup [vec 0#64 0#64, .i .i64 2]) := by kernel_rfl
theorem bit_in : ∀ o : BitVec 8, inBit o = true → (o == 1#8 || o == 2#8 || o == 3#8 || o == 4#8 || o == 5#8 || o == 6#8) = true := by decide +kernel
theorem w114 : Snd 114 bitLf := Sound.weakG (execFn_sound (ann := fun _ => []) TableOK.nil mixed Tryz.func114 (by kernel_rfl) 50) fun ds d' h => by
 split at h
 ·rename_i o x0 x1 y0 y1 z0 z1
  simp only [Option.some.injEq, Prod.mk.injEq] at h
  obtain ⟨ho, rfl⟩ := h
  have h2 := bit_in o ho
  have nf := nf_114 o x0 x1 y0 y1 z0 z1
  simp only [Bool.or_eq_true, beq_iff_eq] at h2
  rcases h2 with ((((rfl | rfl) | rfl) | rfl) | rfl) | rfl <;> exact ⟨_, nf, tup_vec rfl⟩
 ·cases h
theorem nf_115 (b : Bool) (e : Int) : ex [(52, X52)] (fun _ => []) Tryz.f115 [.bool b, .i .i64 e] some = if b = true then some (.agg [.u64 1#64, .u64 0#64, .i .i64 e]) else some (.agg [.u64 0#64, .u64 0#64, .i .i64 e]) := by kernel_rfl
theorem agg_1 {d d' a b : D} (h : Wk d d') : Wk (.agg [d, a, b]) (.agg [d', a, b]) := fun own w v hv => by
 simp only [lies, lie] at hv ⊢
 obtain ⟨cs, rfl, v1, t1, rfl, h1, h2⟩ := hv
 exact ⟨_, rfl, v1, t1, rfl, h own w v1 h1, h2⟩
theorem w115 : Snd 115 truthS := Sound.weakJ (execFn_sound (ann := fun _ => []) (TableOK.cons t_X52 TableOK.nil) mixed Tryz.func115 (by kernel_rfl) 50) fun ds d' h => by
 split at h
 ·rename_i b e
  cases h
  cases b
  ·exact ⟨_, nf_115 false e, agg_1 (u_32 (by decide))⟩
  ·exact ⟨_, nf_115 true e, agg_1 (u_32 (by decide))⟩
 ·cases h
theorem nf_49a (H : BitVec 8 → BitVec 64 → BitVec 64 → Bool) (t0 u0 : BitVec 8) (x0 y0 : BitVec 64) : ex [(14, hasG H)] ann49 Tryz.f49 [.slm 3 1 [.u8 u0, .u64 x0, .u64 y0], .sl8 [t0]] some =
 if (!(u0 == t0)) = false then if (!(H u0 x0 y0)) = true then some (.bool false) else some (.bool true) else some (.bool false) := by kernel_rfl
theorem nf_49b (H : BitVec 8 → BitVec 64 → BitVec 64 → Bool) (t0 u0 t1 u1 : BitVec 8) (x0 y0 x1 y1 : BitVec 64) : ex [(14, hasG H)] ann49 Tryz.f49 [.slm 3 2 [.u8 u0, .u64 x0, .u64 y0, .u8 u1, .u64 x1, .u64 y1], .sl8 [t0, t1]] some =
 if (!(u0 == t0)) = false then if (!(H u0 x0 y0)) = true then some (.bool false) else if (!(u1 == t1)) = false then if (!(H u1 x1 y1)) = true then some (.bool false) else some (.bool true) else some (.bool false) else some (.bool false) := by kernel_rfl
theorem nf_49c (H : BitVec 8 → BitVec 64 → BitVec 64 → Bool) (t0 u0 t1 u1 t2 u2 : BitVec 8) (x0 y0 x1 y1 x2 y2 : BitVec 64) : ex [(14, hasG H)] ann49 Tryz.f49 [.slm 3 3 [.u8 u0, .u64 x0, .u64 y0, .u8 u1, .u64 x1, .u64 y1, .u8 u2, .u64 x2, .u64 y2], .sl8 [t0, t1, t2]] some =
 if (!(u0 == t0)) = false then if (!(H u0 x0 y0)) = true then some (.bool false) else if (!(u1 == t1)) = false then if (!(H u1 x1 y1)) = true then some (.bool false) else if (!(u2 == t2)) = false then if (!(H u2 x2 y2)) = true then some (.bool false) else some (.bool true) else some (.bool false) else some (.bool false) else some (.bool false) := by kernel_rfl
theorem nf_49n (H : BitVec 8 → BitVec 64 → BitVec 64 → Bool) : ex [(14, hasG H)] ann49 Tryz.f49 [.c (.slice none 0 0), .c (.slice none 0 0)] some = some (.bool true) := by kernel_rfl
theorem t_hasG (m : Int) : Snd 14 (hasG (L0 m).has) := Sound.weakJ t_Has fun ds d' h => by
 split at h
 ·cases h
  exact ⟨_, rfl, Wk.refl _⟩
 ·cases h
theorem right_cons {H : BitVec 8 → BitVec 64 → BitVec 64 → Bool} {t : BitVec 8} {ts : List (BitVec 8)} {l : List D} (h : rightB H (t :: ts) l = true) : ∃ x y l', l = .u8 t :: .u64 x :: .u64 y :: l' ∧ H t x y = true ∧ rightB H ts l' = true := by
 unfold rightB at h
 split at h
 ·rename_i e
  cases e
 ·rename_i t' ts' u x y l' e1
  cases e1
  simp only [Bool.and_eq_true, beq_iff_eq] at h
  obtain ⟨⟨rfl, h1⟩, h2⟩ := h
  exact ⟨x, y, l', rfl, h1, h2⟩
 ·cases h
theorem right_nil {H : BitVec 8 → BitVec 64 → BitVec 64 → Bool} {l : List D} (h : rightB H [] l = true) : l = [] := by
 cases l with
 | nil => rfl
 | cons a l => simp [rightB] at h
theorem w49 (m : Int) : Snd 49 (rightLf (L0 m).has) := Sound.weakG (execFn_sound (ann := ann49) (TableOK.cons (t_hasG m) TableOK.nil) mixed Tryz.func49 (by kernel_rfl) 50) fun ds d' h => by
 split at h
 ·rename_i n l ts
  simp only [Option.some.injEq, Prod.mk.injEq, Bool.and_eq_true, beq_iff_eq] at h
  obtain ⟨⟨hk, rfl, hr⟩, rfl⟩ := h
  match ts, hk, hr with
  | [t0], _, hr =>
   obtain ⟨x0, y0, l0, rfl, h0, hr⟩ := right_cons hr
   cases right_nil hr
   refine ⟨_, (nf_49a _ _ _ _ _).trans ?_, Wk.refl _⟩
   simp [h0]
  | [t0, t1], _, hr =>
   obtain ⟨x0, y0, l0, rfl, h0, hr⟩ := right_cons hr
   obtain ⟨x1, y1, l1, rfl, h1, hr⟩ := right_cons hr
   cases right_nil hr
   refine ⟨_, (nf_49b _ _ _ _ _ _ _ _ _).trans ?_, Wk.refl _⟩
   simp [h0, h1]
  | [t0, t1, t2], _, hr =>
   obtain ⟨x0, y0, l0, rfl, h0, hr⟩ := right_cons hr
   obtain ⟨x1, y1, l1, rfl, h1, hr⟩ := right_cons hr
   obtain ⟨x2, y2, l2, rfl, h2, hr⟩ := right_cons hr
   cases right_nil hr
   refine ⟨_, (nf_49c _ _ _ _ _ _ _ _ _ _ _ _ _).trans ?_, Wk.refl _⟩
   simp [h0, h1, h2]
  | [], hk, _ => simp [okN] at hk
  | _ :: _ :: _ :: _ :: ts, hk, _ => simp [okN] at hk
 ·simp only [Option.some.injEq, Prod.mk.injEq, true_and] at h
  subst h
  exact ⟨_, nf_49n _, Wk.refl _⟩
 ·cases h
theorem lfOK (m : Int) : LfOK (L0 m) where
 l29 := lift w29 m
 l30 := lift w30 m
 l31 := lift w31 m
 l32 := lift w32 m
 l47 := lift w47 m
 l49 := lift (w49 m) m
 l53 := lift w53 m
 l101 := lift w101 m
 l102 := lift w102 m
 l103 := lift w103 m
 l104 := lift w104 m
 l105 := lift w105 m
 l109 := lift w109 m
 l110 := lift w110 m
 l111 := lift w111 m
 l113 := lift w113 m
 l114 := lift w114 m
 l115 := lift w115 m
 l117 := lift w117 m
 l118 := lift w118 m
 l124 := lift (w124 m) m
 l125 := lift w125 m
 l126 := lift w126 m
 l127 := lift w127 m
 l128 := lift w128 m
 l129 := lift w129 m
 l130 := lift (w130 m) m
 l131 := lift (w131 m) m
 l132 := lift w132 m
 l133 := lift (w133 m) m
 l195 := lift (w195 m) m
 l196 := lift w196 m
 l198 := lift w198 m
 l199 := lift w199 m
 l200 := lift w200 m
 l201 := lift w201 m
 l266 := lift w266 m
 l269 := lift w269 m
 l271 := lift w271 m
end Go.L23
set_option maxRecDepth 100000
namespace Go.L23
open Go.Ev Go.Proofs Go.RowKit Go.Wh
def is32 (t : BitVec 8) : Bool := t == 127#8 || t == 125#8
def isTy (t : BitVec 8) : Bool := t == 127#8 || t == 126#8 || t == 125#8 || t == 124#8 || t == 123#8
theorem arg_32 {t : BitVec 8} (h : is32 t = true) (x : BitVec 64) : argF t x ≤ 4294967295#64 := by
 unfold argF
 rw [if_pos (show (t == 127#8 || t == 125#8) = true from h)]
 exact and_le' _ _
theorem has_arg {t : BitVec 8} (h : isTy t = true) (x y : BitVec 64) : hasF t (argF t x) (hiF t y) = true := by
 simp only [isTy, Bool.or_eq_true, beq_iff_eq] at h
 rcases h with (((rfl | rfl) | rfl) | rfl) | rfl
 ·have := arg_32 (t := 127#8) (by decide) x
  simp [hasF, hiF, this]
 ·simp [hasF, hiF]
 ·have := arg_32 (t := 125#8) (by decide) x
  simp [hasF, hiF, this]
 ·simp [hasF, hiF]
 ·simp [hasF]
theorem right_want {X Y : Nat → BitVec 64} : ∀ (ts : List (BitVec 8)) (i : Nat), ts.all isTy = true → rightB hasF ts (wantF ts X Y i) = true
 | [], _, _ => rfl
 | t :: ts, i, h => by
  simp only [List.all_cons, Bool.and_eq_true] at h
  simp only [wantF, rightB, beq_self_eq_true, has_arg h.1, right_want ts (i + 1) h.2, Bool.and_self]
theorem has_ok {m : Int} {ts : List (BitVec 8)} (h : (okN ts.length && ts.all isTy) = true) (X Y : Nat → BitVec 64) : hasB (L0 m) ts X Y = true := by
 simp only [Bool.and_eq_true] at h
 show (okN ts.length && (ts.length == ts.length && rightB hasF ts (wantF ts X Y 0))) = true
 rw [h.1, right_want ts 0 h.2]
 simp
theorem fw_A {w : Int} {ts : List (BitVec 8)} {i : Nat} (h : (w == 64 || w == 32 && is32 (ts.getD i 0#8)) = true) (X : Nat → BitVec 64) : fw w (A0 ts X i) = true := by
 simp only [Bool.or_eq_true, Bool.and_eq_true, beq_iff_eq] at h
 rcases h with rfl | ⟨rfl, h⟩
 ·rfl
 ·have := arg_32 h (X i)
  unfold fw A0
  rw [maskF_32, decide_eq_true this]; rfl
theorem fw_and {w : Int} (x : BitVec 64) : fw w (x &&& maskF w) = true := by simp [fw, and_le' x (maskF w)]
theorem getF_le (x y : BitVec 64) (w i : Int) : getF x y w i ≤ maskF w := by
 unfold getF
 split <;> exact and_le' _ _
def a32 (w : Int) (ts : List (BitVec 8)) (i : Nat) : Bool := w == 64 || w == 32 && is32 (ts.getD i 0#8)
def chkK (k : Kd) (ts : List (BitVec 8)) : Bool := match k with
 | .no => true
 | .than o w => wSc w && inThan o && (a32 w ts 0 && a32 w ts 1)
 | .fth o w => wSc w && inFth o && (a32 w ts 0 && a32 w ts 1)
 | .one o w => wSc w && inCnt o && a32 w ts 0
 | .fon o w => wSc w && inFon o && a32 w ts 0
 | .two o w => wSc w && inTwo o && (a32 w ts 0 && a32 w ts 1)
 | .ftw o w => wSc w && inFtw o && (a32 w ts 0 && a32 w ts 1)
 | .ext f t => wSc t && okW f && decide (f ≤ t) && a32 f ts 0
 | .low f t m => wSc t && okW f && decide (f ≤ t) && m == maskF f
 | .cut f t => wSc f && wSc t && a32 f ts 0
 | .pro => a32 32 ts 0
 | .spl w m => okW w && m == maskF w
 | .exl w _ => okW w && decide (w ≤ 32)
 | .set w i m => okI w i && m == maskF w
theorem guard_ok {k : Kd} {ts : List (BitVec 8)} (h : chkK k ts = true) (X Y : Nat → BitVec 64) : guardK k ts X Y = true := by
 cases k <;> simp only [chkK, Bool.and_eq_true, decide_eq_true_eq, beq_iff_eq, a32] at h <;> simp only [guardK]
 case than o w => simp [gThan, h.1.1, h.1.2, fw_A h.2.1 X, fw_A h.2.2 X]
 case fth o w => simp [gFth, h.1.1, h.1.2, fw_A h.2.1 X, fw_A h.2.2 X]
 case one o w => simp [gOne, h.1.1, h.1.2, fw_A h.2 X]
 case fon o w => simp [gFon, h.1.1, h.1.2, fw_A h.2 X]
 case two o w => simp [gTwo, h.1.1, h.1.2, fw_A h.2.1 X, fw_A h.2.2 X]
 case ftw o w => simp [gFtw, h.1.1, h.1.2, fw_A h.2.1 X, fw_A h.2.2 X]
 case ext f t => simp [gExt, h.1.1.1, h.1.1.2, h.1.2, fw_A h.2 X]
 case low f t m => simp [gExt, h.1.1.1, h.1.1.2, h.1.2, h.2, fw_and]
 case cut f t => simp [gCut, h.1.1, h.1.2, fw_A h.2 X]
 case pro => exact fw_A h X
 case spl w m => simp [h.1, h.2, fw_and]
 case exl w i =>
  have : fw w (getF (X 0) (Y 0) w i) = true := by simp [fw, getF_le]
  simp [gExt, h.1, h.2, this, wSc]
 case set w i m => simp [h.1, h.2, fw_and]
def DoPt (n : Nat) (b : BitVec 32) (fr : List (BitVec 8)) (t : BitVec 8) : Prop := ∀ (m : Int) (X Y : Nat → BitVec 64), Pt Tryz.prog (G1 m) 16 [ins (BitVec.ofNat 16 n) b 0#64 z16, argsD fr X Y] (okR t)
def chkR (r : RowK) : Bool := (okN r.fr.length && r.fr.all isTy) && chkK r.k r.fr
theorem do_row {r : RowK} (h : ∀ m X Y, RowOK (L0 m) X Y r) (hc : chkR r = true) : DoPt r.n r.b r.fr r.t := fun m X Y => by
 unfold chkR at hc
 rw [Bool.and_eq_true] at hc
 have h1 := h m X Y
 unfold RowOK at h1
 rw [has_ok hc.1, guard_ok hc.2] at h1
 exact (t_Y16 (lfOK m)).pt h1
theorem wk_val32 {t : BitVec 8} (h : is32 t = true) {e : BitVec 64} (he : e ≤ 4294967295#64) : Wk (okE t e) (okR t) := by
 have hv : valD t = .agg [.u8 t, .xi .u64 p32, .u64 0#64] := by
  have h3 : (t == 123#8) = false := by
   simp only [is32, Bool.or_eq_true, beq_iff_eq] at h
   rcases h with rfl | rfl <;> decide
  unfold valD
  rw [h3, if_neg (by decide)]
  exact if_pos h
 unfold okE okR
 rw [hv]
 refine tup_w fun own w v hl => ?_
 simp only [lies, lie] at hl ⊢
 obtain ⟨cs, rfl, v1, t1, rfl, h1, v2, t2, rfl, h2, h3⟩ := hl
 have := u_32 he own w v2 (by simpa only [lies] using h2)
 simp only [lies] at this
 exact ⟨_, rfl, v1, _, rfl, h1, v2, _, rfl, this, h3⟩
theorem wk_val64 {t : BitVec 8} (h : (t == 126#8 || t == 124#8) = true) (e : BitVec 64) : Wk (okE t e) (okR t) := by
 have hv : valD t = .agg [.u8 t, .xi .u64 pU, .u64 0#64] := by
  simp only [Bool.or_eq_true, beq_iff_eq] at h
  rcases h with rfl | rfl <;> rfl
 unfold okE okR
 rw [hv]
 refine tup_w fun own w v hl => ?_
 simp only [lies, lie] at hl ⊢
 obtain ⟨cs, rfl, v1, t1, rfl, h1, v2, t2, rfl, h2, h3⟩ := hl
 have := u_U e own w v2 (by simpa only [lies] using h2)
 simp only [lies] at this
 exact ⟨_, rfl, v1, _, rfl, h1, v2, _, rfl, this, h3⟩
def chkV (r : RowV) : Bool := (okN r.fr.length && r.fr.all isTy) && ((r.t == 126#8 || r.t == 124#8) || is32 r.t && (match r.k with
 | .id m => m == 4294967295#64
 | .as => is32 (r.fr.getD 0 0#8)
 | .get w _ => w == 32))
theorem do_val {r : RowV} (h : ∀ m X Y, RowVOK (L0 m) X Y r) (hc : chkV r = true) : DoPt r.n r.b r.fr r.t := fun m X Y => by
 unfold chkV at hc
 rw [Bool.and_eq_true] at hc
 have h1 := h m X Y
 unfold RowVOK at h1
 rw [has_ok hc.1] at h1
 refine Pt.weak ((t_Y16 (lfOK m)).pt h1) ?_
 rcases Bool.or_eq_true _ _ ▸ hc.2 with h2 | h2
 ·exact wk_val64 h2 _
 ·rw [Bool.and_eq_true] at h2
  obtain ⟨h2, h3⟩ := h2
  refine wk_val32 h2 ?_
  obtain ⟨n, b, fr, t, k⟩ := r
  cases k <;> simp only [beq_iff_eq] at h3
  ·subst h3; exact and_le' _ _
  ·exact arg_32 h3 _
  ·subst h3
   have := getF_le (X 0) (Y 0) 32 ‹Int›
   rw [maskF_32] at this
   exact this
theorem do_trap {m : Int} {n : Nat} {fr : List (BitVec 8)} {t : BitVec 8} {k : Kd} {b : Bool} {X Y : Nat → BitVec 64} (h : Xdo (L0 m) n 0#32 0#64 z16 fr X Y = gd (hasB (L0 m) fr X Y) (gd (guardK k fr X Y) (if b = true then some trapR else some (okR t)))) (hc : ((okN fr.length && fr.all isTy) && chkK k fr) = true) :
  Pt Tryz.prog (G1 m) 16 [ins (BitVec.ofNat 16 n) 0#32 0#64 z16, argsD fr X Y] trapR ∨ Pt Tryz.prog (G1 m) 16 [ins (BitVec.ofNat 16 n) 0#32 0#64 z16, argsD fr X Y] (okR t) := by
 rw [Bool.and_eq_true] at hc
 rw [has_ok hc.1, guard_ok hc.2] at h
 cases b
 ·exact .inr ((t_Y16 (lfOK m)).pt h)
 ·exact .inl ((t_Y16 (lfOK m)).pt h)
end Go.L23

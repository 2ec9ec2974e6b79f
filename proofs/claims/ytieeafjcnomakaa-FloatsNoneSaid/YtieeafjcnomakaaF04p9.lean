/-
  PROVED HERE: FloatsNone, for every input: no operator answers another NaN than the one of its width, but those that move bits. No conditions beyond the row's own.
-/
import Derived.Test.YtieeafjcnomakaaF04w
import Derived.Test.YtieeafjcnomakaaF04r
import Derived.Test.YtieeafjcnomakaaF04z
set_option linter.unusedSimpArgs false
set_option linter.unusedVariables false
namespace Go.L04
open Go.Ev Go.Proofs Go.RowKit Go.Wh Go.Fl

def FA : Option D := some (.bool false)
def TR : Option D := some (.bool true)
def n3 (nt : Bool) : Option D := if nt = true then TR else FA
def n2 (f1 mv nv1 q1 nt : Bool) : Option D := if f1 = true then (if (!mv) = true then (if nv1 = true then (if (!q1) = true then FA else n3 nt) else n3 nt) else n3 nt) else n3 nt
def n1 (e1 mv nv2 q2 f1 nv1 q1 nt : Bool) : Option D := if e1 = true then (if (!mv) = true then (if nv2 = true then (if (!q2) = false then n2 f1 mv nv1 q1 nt else FA) else n2 f1 mv nv1 q1 nt) else n2 f1 mv nv1 q1 nt) else n2 f1 mv nv1 q1 nt
def mvT (o : BitVec 8) (K : Bool → Option D) : Option D := if (o == 7#8) = false then (if (o == 8#8) = false then (if (o == 9#8) = false then (if (o == 10#8) = false then K (o == 11#8) else K true) else K true) else K true) else K true
theorem nf9 (W : BitVec 8 → Int) (O : Int → BitVec 64 → BitVec 64) (V : WV) (E : CE) (V1 : BitVec 8 → Int → BitVec 64 → BitVec 64) (E1 : BitVec 8 → Int → BitVec 64 → Int) (N : Int → BitVec 64 → Bool) (o n : BitVec 8) (a b : BitVec 64) : ex [(20, widG W), (21, lofG O), (13, twoG V E), (25, oneG V1 E1), (24, noBG N), (15, worksS)] (fun _ => []) Try.f9 [.u8 o, .u8 n, .u64 a, .u64 b] some =
  if (W n == 64) = true then mvT o fun mv => n1 (E o (W n) (O (W n) a) (O (W n) b) == 0) mv (N (W n) (V o (W n) (O (W n) a) (O (W n) b))) (V o (W n) (O (W n) a) (O (W n) b) == 9221120237041090560#64) (E1 o (W n) (O (W n) a) == 0) (N (W n) (V1 o (W n) (O (W n) a))) (V1 o (W n) (O (W n) a) == 9221120237041090560#64) (N (W n) 9221120237041090560#64)
  else mvT o fun mv => n1 (E o (W n) (O (W n) a) (O (W n) b) == 0) mv (N (W n) (V o (W n) (O (W n) a) (O (W n) b))) (V o (W n) (O (W n) a) (O (W n) b) == 2143289344#64) (E1 o (W n) (O (W n) a) == 0) (N (W n) (V1 o (W n) (O (W n) a))) (V1 o (W n) (O (W n) a) == 2143289344#64) (N (W n) 2143289344#64) := by kernel_rfl
theorem n1_ok {e1 mv nv2 q2 f1 nv1 q1 nt : Bool} (h0 : nt = true) (h1 : mv = false → e1 = true → nv2 = true → q2 = true) (h2 : mv = false → f1 = true → nv1 = true → q1 = true) : n1 e1 mv nv2 q2 f1 nv1 q1 nt = some (.bool true) := by
  subst h0
  have a2 : n2 f1 mv nv1 q1 true = some (.bool true) := by
    unfold n2 n3
    cases f1
    · rfl
    · cases mv
      · cases nv1
        · rfl
        · rw [h2 rfl rfl rfl]; rfl
      · rfl
  unfold n1
  rw [a2]
  cases e1
  · rfl
  · cases mv
    · cases nv2
      · rfl
      · rw [h1 rfl rfl rfl]; rfl
    · rfl
def mvO (o : BitVec 8) : Bool := o == 7#8 || o == 8#8 || o == 9#8 || o == 10#8 || o == 11#8
theorem mvT_ok {o : BitVec 8} {K : Bool → Option D} (h : ∀ mv, (mv = false → mvO o = false) → K mv = some (.bool true)) : mvT o K = some (.bool true) := by
  have ht : K true = some (.bool true) := h true (fun h => by cases h)
  unfold mvT
  cases h7 : (o == 7#8)
  · cases h8 : (o == 8#8)
    · cases h9 : (o == 9#8)
      · cases h10 : (o == 10#8)
        · refine h _ fun h11 => ?_
          unfold mvO
          rw [h7, h8, h9, h10, h11]; rfl
        · exact ht
      · exact ht
    · exact ht
  · exact ht
theorem write_num {f : Ieee.Format} {d : Ieee.Datum} (hd : d.isNaN = false) : isN f (f.write d) = false := by
  have go : ∀ (s : Bool) (r : Nat), r ≤ f.infRung → isN f (f.word s r) = false := fun s r hr => by
    refine decide_eq_false ?_
    have h := (word_mod f s (Nat.lt_of_le_of_lt hr (inf_lt f))).1
    show ¬ f.infRung < f.word s r % f.signWeight
    rw [h]; omega
  cases d with
  | number s m e =>
    show isN f (f.nearest s m e) = false
    unfold Ieee.Format.nearest
    split
    · exact go s 0 (Nat.zero_le _)
    · exact go s _ (Nat.min_le_right _ _)
  | infinity s => exact go s _ (Nat.le_refl _)
  | nan s t => cases hd
theorem no_ofN {w : Int} {r : Nat} (h : r < 2 ^ 64) : noW w (BitVec.ofNat 64 r) = isN (fmW w) r := by
  unfold noW
  rw [BitVec.toNat_ofNat, Nat.mod_eq_of_lt h]
theorem w_le (w : Int) : 2 * (fmW w).signWeight ≤ 2 ^ 64 := by
  unfold fmW
  split <;> decide
theorem clean_ar {o : BitVec 8} {w : Int} {a b : BitVec 64} (h : noW w (arW o w a b) = true) : arW o w a b = naW w := by
  unfold arW clO at h ⊢
  cases hr : arN o (fmW w) a.toNat b.toNat with
  | none => rfl
  | some r =>
    rw [hr] at h
    simp only at h ⊢
    cases hn : isN (fmW w) r
    · rw [hn] at h
      simp only [Bool.false_eq_true, if_false] at h
      rw [no_ofN (Nat.lt_of_lt_of_le (arN_lt (two_fm w) o hr) (w_le w)), hn] at h
      cases h
    · rfl
theorem clean_ls {neg : Bool} {w : Int} {a b : BitVec 64} (ha : inF w a = true) (hb : inF w b = true) (h : noW w (lsW neg w a b) = true) : lsW neg w a b = naW w := by
  cases hn : (noW w a || noW w b)
  · exfalso
    have hn' := hn
    rw [Bool.or_eq_false_iff] at hn'
    have e := pick_ls (neg := neg) ha hb hn'.1 hn'.2
    rw [← e] at h
    have pc : pickF (fmW w) neg a.toNat b.toNat = a.toNat ∨ pickF (fmW w) neg a.toNat b.toNat = b.toNat := by
      unfold pickF
      split
      · split
        · exact .inl rfl
        · exact .inr rfl
      · split
        · split
          · exact .inr rfl
          · exact .inl rfl
        · split
          · exact .inl rfl
          · exact .inr rfl
    rcases pc with g | g <;> rw [g, ofN_toNat] at h
    · rw [hn'.1] at h; cases h
    · rw [hn'.2] at h; cases h
  · unfold lsW; rw [hn]; rfl
theorem clean_two {o : BitVec 8} {w : Int} {a b : BitVec 64} (ha : inF w a = true) (hb : inF w b = true) (hm : mvO o = false) (h : noW w (ftwV o w a b) = true) (he : (ftwE o w a b == 0) = true) : ftwV o w a b = naW w := by
  have hma := ma_in ha hb
  unfold ftwV at h ⊢
  unfold ftwE at he
  rw [hma, if_pos rfl] at h he ⊢
  unfold mvO at hm
  simp only [Bool.or_eq_false_iff] at hm
  obtain ⟨⟨⟨⟨h7, h8⟩, h9⟩, h10⟩, h11⟩ := hm
  unfold twW at h ⊢
  unfold twE at he
  rw [h7, h8, h9] at h he ⊢
  cases har : (o == 1#8 || o == 2#8 || o == 3#8 || o == 4#8)
  · rw [har] at h he
    cases h5 : (o == 5#8)
    · rw [h5] at h he
      cases h6 : (o == 6#8)
      · rw [h6] at he; cases he
      · rw [h6] at h
        exact clean_ls ha hb h
    · rw [h5] at h
      exact clean_ls ha hb h
  · rw [har] at h
    exact clean_ar h
theorem clean_sq {w : Int} {a : BitVec 64} (ha : inF w a = true) (h : noW w (sqW w a) = true) : sqW w a = naW w := by
  have hw := in_ok ha
  cases hn : noW w a
  · cases hs : sqN (wdW w a)
    · have hc := sq_bs ha hn hs
      have e : sqW w a = bsV w (sqR (wdW w a)) := by unfold sqW; rw [hn, hs]; rfl
      rw [e] at h ⊢
      unfold bsV at h ⊢
      cases hx : isN Ieee.double (sqR (wdW w a))
      · exfalso
        rw [hx] at h
        simp only [Bool.false_eq_true, if_false] at h
        have hd : (Ieee.double.read (sqR (wdW w a))).isNaN = false := (isN_iff two_d _).trans hx
        rcases wOK_cases hw with rfl | rfl
        · rw [if_pos rfl, no_ofN (Nat.lt_trans (write_lt two_s _) (by decide))] at h
          have := write_num (f := Ieee.single) hd
          have h' : isN Ieee.single (Ieee.single.write (Ieee.double.read (sqR (wdW 32 a)))) = true := h
          rw [this] at h'; cases h'
        · rw [if_neg (by decide), no_ofN (of_decide_eq_true hc)] at h
          have h' : isN Ieee.double (sqR (wdW 64 a)) = true := h
          rw [hx] at h'; cases h'
      · rfl
    · unfold sqW; rw [hn, hs]; rfl
  · unfold sqW; rw [hn]; rfl
theorem clean_one {o : BitVec 8} {w : Int} {a : BitVec 64} (ha : inF w a = true) (hm : mvO o = false) (h : noW w (onV o w a) = true) (he : (onE o w a == 0) = true) : onV o w a = naW w := by
  unfold onV at h ⊢
  unfold onE onOp at he
  rw [ha] at h he ⊢
  rw [if_pos rfl] at h ⊢
  unfold mvO at hm
  simp only [Bool.or_eq_false_iff] at hm
  obtain ⟨⟨⟨⟨h7, h8⟩, h9⟩, h10⟩, h11⟩ := hm
  unfold onV1 at h ⊢
  rw [h10, h11] at h he ⊢
  cases h12 : (o == 12#8)
  · rw [h12] at h he
    cases hr : (o == 13#8 || o == 14#8 || o == 15#8 || o == 16#8)
    · exfalso
      simp only [Bool.or_eq_false_iff] at hr
      rw [hr.1.1.1, hr.1.1.2, hr.1.2, hr.2] at he
      cases he
    · rw [hr] at h
      have h' : noW w (rnW (wayO o) w a) = true := h
      rw [rnW_no (wayO o) ha] at h'
      show rnW (wayO o) w a = naW w
      unfold rnW
      rw [h']; rfl
  · rw [h12] at h
    exact clean_sq ha h
theorem floatsNone_s : Snd 9 (trueS fun | [.u8 _, .u8 _, .u64 _, .u64 _] => true | _ => false) := by
  refine Sound.guard (execFn_sound (ann := fun _ => []) (TableOK.cons t_wid (TableOK.cons t_lof (TableOK.cons f_two (TableOK.cons f_one (TableOK.cons l_none (TableOK.cons s_works TableOK.nil)))))) mixed Try.func9 (by kernel_rfl) 50) fun ds d h => ?_
  simp only [Option.some.injEq, Prod.mk.injEq] at h
  obtain ⟨h, rfl⟩ := h
  split at h
  · rename_i o n a b
    refine (nf9 _ _ _ _ _ _ _ o n a b).trans ?_
    have ia := in_wl n a
    have ib := in_wl n b
    have hw := ok_wid n
    generalize lofF (widF n) a = x at ia ⊢
    generalize lofF (widF n) b = y at ib ⊢
    generalize widF n = w at ia ib hw ⊢
    have nV : ∀ z, nonV w z = true → noW w z = true := fun z hz => by
      unfold nonV at hz
      rw [Bool.and_eq_true] at hz
      exact hz.2
    have main : mvT o (fun mv => n1 (ftwE o w x y == 0) mv (nonV w (ftwV o w x y)) (ftwV o w x y == naW w) (onE o w x == 0) (nonV w (onV o w x)) (onV o w x == naW w) (nonV w (naW w))) = some (.bool true) := by
      refine mvT_ok fun mv hmv => n1_ok ?_ ?_ ?_
      · obtain ⟨z1, z2⟩ := na_no hw
        unfold nonV; rw [z1, z2]; rfl
      · intro hm he hv
        rw [clean_two ia ib (hmv hm) (nV _ hv) he]
        exact beq_self_eq_true _
      · intro hm he hv
        rw [clean_one ia (hmv hm) (nV _ hv) he]
        exact beq_self_eq_true _
    rcases wOK_cases hw with rfl | rfl
    · exact main
    · exact main
  · cases h

end Go.L04
namespace Go.Proofs.Ytieeafjcnomakaa.floatsNone
open Go Go.L04 Go.Ev Go.RowKit Go.ChangeShapes Go.WideShapes Go.ChangeAt
set_option maxRecDepth 100000 in
theorem lifted (os : Os) (started : os.Started) (H : Type) (enc : TypeId × Value → H) :
    ReturnsInHanded {} Try.checked os 9 .any (Rows.floatsNoneSpec.pre6 enc Try.prog Try.f9 Rows.floatsNoneRow.domain false) (Rows.floatsNoneSpec.post enc Try.prog Try.f9 false true false false) := by
  refine returnsInHanded_of_change (C := Try.checked) own started (by kernel_rfl) Try.func9
    (ChangeSpec.witness6 (enc := enc) (C := Try.checked) false ⟨#[], #[.int .u8 0, .int .u8 0, .int .u64 0, .int .u64 0], []⟩ 8 (by kernel_rfl) (by kernel_rfl) (by kernel_rfl) (by kernel_rfl)) ?_
  intro W base args ds gs before hval0 hW _ _
  have hval : ∀ (j : Nat) t v, Try.f9.params[j]? = some t → args[j]? = some v → Value.okWide Try.prog W .any base t v := hval0
  have hW' := hW
  obtain ⟨p, q, hA0, hV, rfl, hfz, hnd⟩ := hW
  have hA : DataW.TrodAll enc Try.prog W 0 (fun _ => true) true Try.f9.params.toList args.toList ds p := hA0
  rw [Try.params9] at hA hval
  obtain ⟨v0, vs0, d0, ds0, p0, q0, hargs, rfl, rfl, h0, r0⟩ := trodAll_cons hA
  obtain ⟨v1, vs1, d1, ds1, p1, q1, rfl, rfl, rfl, h1, r1⟩ := trodAll_cons r0
  obtain ⟨v2, vs2, d2, ds2, p2, q2, rfl, rfl, rfl, h2, r2⟩ := trodAll_cons r1
  obtain ⟨v3, vs3, d3, ds3, p3, q3, rfl, rfl, rfl, h3, r3⟩ := trodAll_cons r2
  obtain ⟨rfl, rfl, rfl⟩ := trodAll_nil r3
  obtain rfl : args = #[v0, v1, v2, v3] := by cases args; simp_all
  obtain ⟨x0, l0⟩ := arg_u8 (own := none) Try.underlying22 (hval 0 22 v0 rfl rfl) h0
  obtain ⟨x1, l1⟩ := arg_u8 (own := none) Try.underlying5 (hval 1 5 v1 rfl rfl) h1
  obtain ⟨x2, l2⟩ := arg_u64 (own := none) Try.underlying23 (hval 2 23 v2 rfl rfl) h2
  obtain ⟨x3, l3⟩ := arg_u64 (own := none) Try.underlying23 (hval 3 23 v3 rfl rfl) h3
  refine (call_true floatsNone_s (ds := [.u8 x0, .u8 x1, .u64 x2, .u64 x3]) rfl (by simp only [lie]; exact ⟨_, _, rfl, l0, _, _, rfl, l1, _, _, rfl, l2, _, _, rfl, l3, rfl⟩) (by kernel_rfl)).mono fun e W' ⟨he, hb⟩ => ?_
  subst he
  exact ⟨_, rfl, post_law hW' hb laidOut (by kernel_rfl) rfl (by kernel_rfl) Try.underlying4 rfl⟩
end Go.Proofs.Ytieeafjcnomakaa.floatsNone
namespace Go.Proofs.Ytieeafjcnomakaa
open Go

theorem floatsNone_holds : Rows.FloatsNoneSaid :=
  OpenClaim.holds_of_wide 9 Try.f9 rfl rfl rfl rfl rfl rfl rfl ⟨rfl, rfl, rfl, rfl, rfl⟩ rfl rfl rfl rfl rfl (by kernel_rfl) Try.func9 (by kernel_rfl)
    (of_decide_eq_true (by kernel_rfl)) (by unfold Func.isWrapper; first | (rw [if_pos (by decide +kernel)]; kernel_rfl) | (rw [if_neg (by decide +kernel)]; exact ⟨rfl, rfl⟩))
    (fun os started H enc _ => floatsNone.lifted os started H enc)
#print axioms floatsNone_holds
end Go.Proofs.Ytieeafjcnomakaa

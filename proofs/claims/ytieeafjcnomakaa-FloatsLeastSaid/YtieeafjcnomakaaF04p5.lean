/-
  PROVED HERE: FloatsLeast, for every input: of two numbers just one of less, same, greater holds; the least and the greatest are these two; with what is no number all is the one NaN, and no comparison holds but unlike. No conditions beyond the row's own.
-/
import Derived.Test.YtieeafjcnomakaaF04w
import Derived.Test.YtieeafjcnomakaaF04r
import Derived.Test.YtieeafjcnomakaaF04v
set_option linter.unusedSimpArgs false
set_option linter.unusedVariables false
namespace Go.L04
open Go.Ev Go.Proofs Go.RowKit Go.Wh Go.Fl

/-! comparisons of these two alone, each with a given answer -/
noncomputable def thK (g : Int → BitVec 64 → BitVec 64 → Bool) (lt eq gt le ge ne : Bool) : Ev.Spec := guarded fun | [.u8 o, .i .i64 w, .u64 a, .u64 b] => some ((o == 17#8 || o == 18#8 || o == 19#8 || o == 20#8 || o == 21#8 || o == 22#8) && g w a b, .bool (if (o == 19#8) = true then lt else if (o == 17#8) = true then eq else if (o == 20#8) = true then gt else if (o == 21#8) = true then le else if (o == 22#8) = true then ge else ne)) | _ => none
def g6 (g : Bool) (x : Option D) : Option D := if g = true then (if g = true then (if g = true then (if g = true then (if g = true then (if g = true then x else none) else none) else none) else none) else none) else none
def noT (na nb : Bool) (x y : Option D) : Option D := if na = false then (if nb = true then x else y) else x
def FA : Option D := some (.bool false)
def TR : Option D := some (.bool true)
def r17 (la hb lb ha : Bool) : Option D := if la = true then (if hb = false then (if lb = true then (if ha = true then TR else FA) else FA) else TR) else (if lb = true then (if ha = true then TR else FA) else FA)
noncomputable abbrev tb5 (g : Int → BitVec 64 → BitVec 64 → Bool) (lt eq gt le ge ne : Bool) (W : BitVec 8 → Int) (O : Int → BitVec 64 → BitVec 64) (V : WV) (N : Int → BitVec 64 → Bool) : List (Nat × Ev.Spec) := [(20, widG W), (21, lofG O), (22, thK g lt eq gt le ge ne), (23, twBG V), (24, noBG N), (15, worksS)]
section
variable (g : Int → BitVec 64 → BitVec 64 → Bool) (W : BitVec 8 → Int) (O : Int → BitVec 64 → BitVec 64) (V : WV) (N : Int → BitVec 64 → Bool) (n : BitVec 8) (a b : BitVec 64)
theorem nf5n : ex (tb5 g false false false false false true W O V N) (fun _ => []) Try.f5 [.u8 n, .u64 a, .u64 b] some =
  g6 (g (W n) (O (W n) a) (O (W n) b)) (noT (N (W n) (O (W n) a)) (N (W n) (O (W n) b)) (if N (W n) (V 5#8 (W n) (O (W n) a) (O (W n) b)) = true then (if N (W n) (V 6#8 (W n) (O (W n) a) (O (W n) b)) = true then TR else FA) else FA) FA) := by kernel_rfl
theorem nf5l : ex (tb5 g true false false true false true W O V N) (fun _ => []) Try.f5 [.u8 n, .u64 a, .u64 b] some =
  g6 (g (W n) (O (W n) a) (O (W n) b)) (noT (N (W n) (O (W n) a)) (N (W n) (O (W n) b)) FA
    (if (!(V 5#8 (W n) (O (W n) a) (O (W n) b) == O (W n) a)) = false then (if (!(V 6#8 (W n) (O (W n) a) (O (W n) b) == O (W n) b)) = false then
      r17 (V 5#8 (W n) (O (W n) a) (O (W n) b) == O (W n) a) (V 6#8 (W n) (O (W n) a) (O (W n) b) == O (W n) b) (V 5#8 (W n) (O (W n) a) (O (W n) b) == O (W n) b) (V 6#8 (W n) (O (W n) a) (O (W n) b) == O (W n) a) else FA) else FA)) := by kernel_rfl
theorem nf5g : ex (tb5 g false false true false true true W O V N) (fun _ => []) Try.f5 [.u8 n, .u64 a, .u64 b] some =
  g6 (g (W n) (O (W n) a) (O (W n) b)) (noT (N (W n) (O (W n) a)) (N (W n) (O (W n) b)) FA
    (if (!(V 5#8 (W n) (O (W n) a) (O (W n) b) == O (W n) b)) = false then (if (!(V 6#8 (W n) (O (W n) a) (O (W n) b) == O (W n) a)) = true then FA else
      r17 (V 5#8 (W n) (O (W n) a) (O (W n) b) == O (W n) a) (V 6#8 (W n) (O (W n) a) (O (W n) b) == O (W n) b) (V 5#8 (W n) (O (W n) a) (O (W n) b) == O (W n) b) (V 6#8 (W n) (O (W n) a) (O (W n) b) == O (W n) a)) else FA)) := by kernel_rfl
theorem nf5e : ex (tb5 g false true false true true false W O V N) (fun _ => []) Try.f5 [.u8 n, .u64 a, .u64 b] some =
  g6 (g (W n) (O (W n) a) (O (W n) b)) (noT (N (W n) (O (W n) a)) (N (W n) (O (W n) b)) FA
      (r17 (V 5#8 (W n) (O (W n) a) (O (W n) b) == O (W n) a) (V 6#8 (W n) (O (W n) a) (O (W n) b) == O (W n) b) (V 5#8 (W n) (O (W n) a) (O (W n) b) == O (W n) b) (V 6#8 (W n) (O (W n) a) (O (W n) b) == O (W n) a))) := by kernel_rfl
end
noncomputable def gAt (w : Int) (a b : BitVec 64) : Int → BitVec 64 → BitVec 64 → Bool := fun w' a' b' => decide (w' = w ∧ a' = a ∧ b' = b)
theorem gAt_self (w : Int) (a b : BitVec 64) : gAt w a b w a b = true := decide_eq_true ⟨rfl, rfl, rfl⟩
theorem thK_ok {w : Int} {a b : BitVec 64} (hm : maW w [a, b] = true) {lt eq gt le ge ne : Bool} (h1 : leW w a b = lt) (h2 : eqW w a b = eq) (h3 : leW w b a = gt) (h4 : (lt || eq) = le) (h5 : (gt || eq) = ge) (h6 : (!eq) = ne) : Snd 22 (thK (gAt w a b) lt eq gt le ge ne) := by
  subst h1 h2 h3 h4 h5 h6
  refine Sound.of_ptG fun ds d hd => ?_
  split at hd
  · rename_i o w' a' b'
    rw [Option.some.injEq, Prod.mk.injEq, Bool.and_eq_true] at hd
    obtain ⟨⟨ho, hg⟩, rfl⟩ := hd
    simp only [Bool.or_eq_true, beq_iff_eq] at ho
    obtain ⟨rfl, rfl, rfl⟩ := of_decide_eq_true hg
    have e : fthV o w' a' b' = (if (o == 19#8) = true then leW w' a' b' else if (o == 17#8) = true then eqW w' a' b' else if (o == 20#8) = true then leW w' b' a' else if (o == 21#8) = true then (leW w' a' b' || eqW w' a' b') else if (o == 22#8) = true then (leW w' b' a' || eqW w' a' b') else !eqW w' a' b') := by
      unfold fthV
      rw [hm, Bool.true_and]
      rcases ho with ((((rfl | rfl) | rfl) | rfl) | rfl) | rfl <;> rfl
    rw [← e]
    exact l_than.pt rfl
  · cases hd
theorem g6_ok {g : Bool} {x : Option D} (h : g = true) : g6 g x = x := by subst h; rfl
theorem tw_ls {w : Int} {a b : BitVec 64} (ha : inF w a = true) (hb : inF w b = true) : ftwV 5#8 w a b = lsW true w a b ∧ ftwV 6#8 w a b = lsW false w a b := by
  unfold ftwV
  rw [ma_in ha hb, if_pos rfl, if_pos rfl]
  exact ⟨rfl, rfl⟩
theorem in_na {w : Int} (h : wOK w = true) : inF w (naW w) = true ∧ noW w (naW w) = true := by
  rcases wOK_cases h with rfl | rfl <;> exact ⟨by decide, by decide⟩
theorem floatsLeast_s : Snd 5 (trueS fun | [.u8 _, .u64 _, .u64 _] => true | _ => false) := by
  refine Sound.of_ptG fun ds d h => ?_
  simp only [Option.some.injEq, Prod.mk.injEq] at h
  obtain ⟨h, rfl⟩ := h
  split at h
  · rename_i n a b
    have ia := in_wl n a
    have ib := in_wl n b
    have hw := ok_wid n
    have hm := ma_in ia ib
    obtain ⟨t5, t6⟩ := tw_ls ia ib
    have go : ∀ {lt eq gt le ge ne : Bool}, Snd 22 (thK (gAt (widF n) (lofF (widF n) a) (lofF (widF n) b)) lt eq gt le ge ne) → ex (tb5 (gAt (widF n) (lofF (widF n) a) (lofF (widF n) b)) lt eq gt le ge ne widF lofF ftwV nonV) (fun _ => []) Try.f5 [.u8 n, .u64 a, .u64 b] some = some (.bool true) → Pt Try.prog G0 5 [.u8 n, .u64 a, .u64 b] (.bool true) := fun hk hx =>
      (execFn_sound (P := Try.prog) (G := G0) (ann := fun _ => []) (TableOK.cons t_wid (TableOK.cons t_lof (TableOK.cons hk (TableOK.cons l_two (TableOK.cons l_none (TableOK.cons s_works TableOK.nil)))))) mixed Try.func5 (by kernel_rfl) 50).pt hx
    have nV : ∀ z, inF (widF n) z = true → nonV (widF n) z = noW (widF n) z := fun z hz => by unfold nonV; rw [hz, Bool.true_and]
    cases hn : (noW (widF n) (lofF (widF n) a) || noW (widF n) (lofF (widF n) b))
    · rw [Bool.or_eq_false_iff] at hn
      rcases Int.lt_trichotomy (keW (widF n) (lofF (widF n) a)) (keW (widF n) (lofF (widF n) b)) with hk | hk | hk
      · have e1 : (keW (widF n) (lofF (widF n) a) == keW (widF n) (lofF (widF n) b)) = false := by simpa using (by omega : keW (widF n) (lofF (widF n) a) ≠ keW (widF n) (lofF (widF n) b))
        refine go (thK_ok hm (lt := true) (eq := false) (gt := false) ?_ ?_ ?_ rfl rfl rfl) ?_
        · unfold leW; rw [hn.1, hn.2, decide_eq_true hk]; rfl
        · unfold eqW; rw [hn.1, hn.2, e1]; rfl
        · unfold leW; rw [hn.1, hn.2, decide_eq_false (by omega)]; rfl
        · refine (nf5l _ _ _ _ _ n a b).trans ((g6_ok (gAt_self _ _ _)).trans ?_)
          have l5 : lsW true (widF n) (lofF (widF n) a) (lofF (widF n) b) = lofF (widF n) a := by unfold lsW; rw [hn.1, hn.2, e1, decide_eq_true hk]; rfl
          have l6 : lsW false (widF n) (lofF (widF n) a) (lofF (widF n) b) = lofF (widF n) b := by unfold lsW; rw [hn.1, hn.2, e1, decide_eq_true hk]; rfl
          rw [nV _ ia, nV _ ib, hn.1, hn.2, t5, t6, l5, l6, beq_self_eq_true, beq_self_eq_true]
          rfl
      · have e1 : (keW (widF n) (lofF (widF n) a) == keW (widF n) (lofF (widF n) b)) = true := by rw [hk]; exact beq_self_eq_true _
        refine go (thK_ok hm (lt := false) (eq := true) (gt := false) ?_ ?_ ?_ rfl rfl rfl) ?_
        · unfold leW; rw [hn.1, hn.2, decide_eq_false (by omega)]; rfl
        · unfold eqW; rw [hn.1, hn.2, e1]; rfl
        · unfold leW; rw [hn.1, hn.2, decide_eq_false (by omega)]; rfl
        · refine (nf5e _ _ _ _ _ n a b).trans ((g6_ok (gAt_self _ _ _)).trans ?_)
          have l5 : lsW true (widF n) (lofF (widF n) a) (lofF (widF n) b) = lofF (widF n) a ||| lofF (widF n) b := by unfold lsW; rw [hn.1, hn.2, e1]; rfl
          have l6 : lsW false (widF n) (lofF (widF n) a) (lofF (widF n) b) = lofF (widF n) a &&& lofF (widF n) b := by unfold lsW; rw [hn.1, hn.2, e1]; rfl
          rw [nV _ ia, nV _ ib, hn.1, hn.2, t5, t6, l5, l6]
          show r17 _ _ _ _ = TR
          have r1 : ∀ p q, r17 true true p q = TR := fun p q => rfl
          have r2 : ∀ p q, r17 p q true true = TR := fun p q => by cases p <;> cases q <;> rfl
          rcases or_and ia ib hk with ⟨g1, g2⟩ | ⟨g1, g2⟩
          · rw [g1, g2]
            have s1 : (lofF (widF n) a == lofF (widF n) a) = true := beq_self_eq_true _
            have s2 : (lofF (widF n) b == lofF (widF n) b) = true := beq_self_eq_true _
            rw [s1, s2]; exact r1 _ _
          · rw [g1, g2]
            have s1 : (lofF (widF n) a == lofF (widF n) a) = true := beq_self_eq_true _
            have s2 : (lofF (widF n) b == lofF (widF n) b) = true := beq_self_eq_true _
            rw [s1, s2]; exact r2 _ _
      · have e1 : (keW (widF n) (lofF (widF n) a) == keW (widF n) (lofF (widF n) b)) = false := by simpa using (by omega : keW (widF n) (lofF (widF n) a) ≠ keW (widF n) (lofF (widF n) b))
        have n1 : ¬ keW (widF n) (lofF (widF n) a) < keW (widF n) (lofF (widF n) b) := by omega
        refine go (thK_ok hm (lt := false) (eq := false) (gt := true) ?_ ?_ ?_ rfl rfl rfl) ?_
        · unfold leW; rw [hn.1, hn.2, decide_eq_false n1]; rfl
        · unfold eqW; rw [hn.1, hn.2, e1]; rfl
        · unfold leW; rw [hn.1, hn.2, decide_eq_true hk]; rfl
        · refine (nf5g _ _ _ _ _ n a b).trans ((g6_ok (gAt_self _ _ _)).trans ?_)
          have l5 : lsW true (widF n) (lofF (widF n) a) (lofF (widF n) b) = lofF (widF n) b := by unfold lsW; rw [hn.1, hn.2, e1, decide_eq_false n1]; rfl
          have l6 : lsW false (widF n) (lofF (widF n) a) (lofF (widF n) b) = lofF (widF n) a := by unfold lsW; rw [hn.1, hn.2, e1, decide_eq_false n1]; rfl
          have s1 : (lofF (widF n) a == lofF (widF n) a) = true := beq_self_eq_true _
          have s2 : (lofF (widF n) b == lofF (widF n) b) = true := beq_self_eq_true _
          have r2 : ∀ p q, r17 p q true true = TR := fun p q => by cases p <;> cases q <;> rfl
          rw [nV _ ia, nV _ ib, hn.1, hn.2, t5, t6, l5, l6, s1, s2]
          exact r2 _ _
    · have l5 : ∀ neg, lsW neg (widF n) (lofF (widF n) a) (lofF (widF n) b) = naW (widF n) := fun neg => by unfold lsW; rw [hn]; rfl
      obtain ⟨z1, z2⟩ := in_na hw
      have hn' := hn
      rw [Bool.or_eq_true] at hn'
      refine go (thK_ok hm (lt := false) (eq := false) (gt := false) ?_ ?_ ?_ rfl rfl rfl) ?_
      · exact le_nan hn
      · unfold eqW; rcases hn' with h | h <;> rw [h]
        · rfl
        · cases noW (widF n) (lofF (widF n) a) <;> rfl
      · exact le_nan (by rw [Bool.or_comm]; exact hn)
      · refine (nf5n _ _ _ _ _ n a b).trans ((g6_ok (gAt_self _ _ _)).trans ?_)
        rw [nV _ ia, nV _ ib, t5, t6, l5, l5, nV _ z1, z2]
        show noT _ _ TR FA = TR
        revert hn
        cases noW (widF n) (lofF (widF n) a) <;> cases noW (widF n) (lofF (widF n) b) <;> intro hn <;> first | rfl | cases hn
  · cases h

end Go.L04
namespace Go.Proofs.Ytieeafjcnomakaa.floatsLeast
open Go Go.L04 Go.Ev Go.RowKit Go.ChangeShapes Go.WideShapes Go.ChangeAt
set_option maxRecDepth 100000 in
theorem lifted (os : Os) (started : os.Started) (H : Type) (enc : TypeId × Value → H) :
    ReturnsInHanded {} Try.checked os 5 .any (Rows.floatsLeastSpec.pre6 enc Try.prog Try.f5 Rows.floatsLeastRow.domain false) (Rows.floatsLeastSpec.post enc Try.prog Try.f5 false true false false) := by
  refine returnsInHanded_of_change (C := Try.checked) own started (by kernel_rfl) Try.func5
    (ChangeSpec.witness6 (enc := enc) (C := Try.checked) false ⟨#[], #[.int .u8 0, .int .u64 0, .int .u64 0], []⟩ 8 (by kernel_rfl) (by kernel_rfl) (by kernel_rfl) (by kernel_rfl)) ?_
  intro W base args ds gs before hval0 hW _ _
  have hval : ∀ (j : Nat) t v, Try.f5.params[j]? = some t → args[j]? = some v → Value.okWide Try.prog W .any base t v := hval0
  have hW' := hW
  obtain ⟨p, q, hA0, hV, rfl, hfz, hnd⟩ := hW
  have hA : DataW.TrodAll enc Try.prog W 0 (fun _ => true) true Try.f5.params.toList args.toList ds p := hA0
  rw [Try.params5] at hA hval
  obtain ⟨v0, vs0, d0, ds0, p0, q0, hargs, rfl, rfl, h0, r0⟩ := trodAll_cons hA
  obtain ⟨v1, vs1, d1, ds1, p1, q1, rfl, rfl, rfl, h1, r1⟩ := trodAll_cons r0
  obtain ⟨v2, vs2, d2, ds2, p2, q2, rfl, rfl, rfl, h2, r2⟩ := trodAll_cons r1
  obtain ⟨rfl, rfl, rfl⟩ := trodAll_nil r2
  obtain rfl : args = #[v0, v1, v2] := by cases args; simp_all
  obtain ⟨x0, l0⟩ := arg_u8 (own := none) Try.underlying5 (hval 0 5 v0 rfl rfl) h0
  obtain ⟨x1, l1⟩ := arg_u64 (own := none) Try.underlying23 (hval 1 23 v1 rfl rfl) h1
  obtain ⟨x2, l2⟩ := arg_u64 (own := none) Try.underlying23 (hval 2 23 v2 rfl rfl) h2
  refine (call_true floatsLeast_s (ds := [.u8 x0, .u64 x1, .u64 x2]) rfl (by simp only [lie]; exact ⟨_, _, rfl, l0, _, _, rfl, l1, _, _, rfl, l2, rfl⟩) (by kernel_rfl)).mono fun e W' ⟨he, hb⟩ => ?_
  subst he
  exact ⟨_, rfl, post_law hW' hb laidOut (by kernel_rfl) rfl (by kernel_rfl) Try.underlying4 rfl⟩
end Go.Proofs.Ytieeafjcnomakaa.floatsLeast
namespace Go.Proofs.Ytieeafjcnomakaa
open Go

theorem floatsLeast_holds : Rows.FloatsLeastSaid :=
  OpenClaim.holds_of_wide 5 Try.f5 rfl rfl rfl rfl rfl rfl rfl ⟨rfl, rfl, rfl, rfl, rfl⟩ rfl rfl rfl rfl rfl (by kernel_rfl) Try.func5 (by kernel_rfl)
    (of_decide_eq_true (by kernel_rfl)) (by unfold Func.isWrapper; first | (rw [if_pos (by decide +kernel)]; kernel_rfl) | (rw [if_neg (by decide +kernel)]; exact ⟨rfl, rfl⟩))
    (fun os started H enc _ => floatsLeast.lifted os started H enc)
#print axioms floatsLeast_holds
end Go.Proofs.Ytieeafjcnomakaa

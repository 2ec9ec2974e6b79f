/-
  PROVED HERE: ConvsBack, for every input: a float of 32 bits that is promoted, and demoted, is itself, but for what is no number. No conditions beyond the row's own.
-/
import Derived.Test.YtaabolgkoegohaaC05g
import Derived.Test.YtaabolgkoegohaaC05r
set_option linter.unusedSimpArgs false
set_option linter.unusedVariables false
namespace Go.L05
open Go.Ev Go.Proofs Go.RowKit Go.Wh Go.Fl

noncomputable def proG (V : BitVec 64 → BitVec 64) (E : BitVec 64 → Int) : Ev.Spec := joined fun | [.u64 a] => some (.tup [.u64 (V a), .i .i64 (E a)]) | _ => none
noncomputable def demG (C : BitVec 64 → Bool) (V : BitVec 64 → BitVec 64) : Ev.Spec := guarded fun | [.u64 a] => some (C a, .tup [.u64 (V a), .i .i64 0]) | _ => none
noncomputable def nonG (B : Int → BitVec 64 → Bool) (E : Int → BitVec 64 → Int) : Ev.Spec := joined fun | [.i .i64 w, .u64 a] => some (.tup [.bool (B w a), .i .i64 (E w a)]) | _ => none
def bkL (e b x y z : Bool) : Option D := if (!e) = false then if b = true then if x = true then if y = true then some (.bool true) else some (.bool false) else some (.bool false) else if z = true then some (.bool true) else some (.bool false) else some (.bool false)
theorem nf7 (V : BitVec 64 → BitVec 64) (E : BitVec 64 → Int) (C : BitVec 64 → Bool) (V2 : BitVec 64 → BitVec 64) (B : Int → BitVec 64 → Bool) (N : Int → BitVec 64 → Int) (a : BitVec 32) : ex [(10, proG V E), (12, demG C V2), (21, nonG B N), (14, worksS)] (fun _ => []) Try.f7 [.u32 a] some =
  if C (V (BitVec.setWidth 64 a)) = true then bkL (E (BitVec.setWidth 64 a) == 0) (B 32 (BitVec.setWidth 64 a)) (V (BitVec.setWidth 64 a) == 9221120237041090560#64) (V2 (V (BitVec.setWidth 64 a)) == 2143289344#64) (V2 (V (BitVec.setWidth 64 a)) == BitVec.setWidth 64 a) else none := by kernel_rfl
/-- The short one that the long one is. -/
def shortV (a : BitVec 64) : BitVec 64 := if isNW 64 a = true then 2143289344#64 else BitVec.ofNat 64 (Ieee.single.write (Ieee.double.read a.toNat))
/-- It is one that is no number, or came of a short one. -/
def cameB (a : BitVec 64) : Bool := isNW 64 a || (if fin Ieee.double a.toNat = true then !(Ieee.single.read (Ieee.single.write (Ieee.double.read a.toNat))).isInfinity else true)
theorem t_demB : Snd 12 (demG cameB shortV) := by
  refine Sound.of_ptG fun ds d hd => ?_
  split at hd
  · rename_i a
    simp only [Option.some.injEq, Prod.mk.injEq] at hd
    obtain ⟨hc, rfl⟩ := hd
    cases hn : isNW 64 a
    · unfold cameB at hc
      rw [hn, Bool.false_or] at hc
      unfold shortV
      rw [hn]
      refine dem_go hn ?_
      cases hf : fin Ieee.double a.toNat
      · have e := read_infty two_d hf hn
        rw [e]
        show demK (.f .f32 (FloatKind.f32.encode (.infinity (ng Ieee.double a.toNat)))) = _
        have hlt : FloatKind.f32.encode (.infinity (ng Ieee.double a.toNat)) < 2 ^ 32 := word_lt Ieee.single _ (inf_lt Ieee.single)
        refine (if_pos (decide_eq_true hlt)).trans ?_
        rw [set32 hlt]; rfl
      · rw [hf, if_pos rfl] at hc
        have e := read_fin hf
        rw [e] at hc ⊢
        have hlt : FloatKind.f32.encode (.number (ng Ieee.double a.toNat) (mg Ieee.double a.toNat) (pl Ieee.double a.toNat)) < 2 ^ 32 := nearest_lt Ieee.single _ _ _
        have hi : ¬ (FloatKind.f32.decode (FloatKind.f32.encode (.number (ng Ieee.double a.toNat) (mg Ieee.double a.toNat) (pl Ieee.double a.toNat)))).isInfinity = true := by
          intro h
          have h2 : (!(FloatKind.f32.decode (FloatKind.f32.encode (.number (ng Ieee.double a.toNat) (mg Ieee.double a.toNat) (pl Ieee.double a.toNat)))).isInfinity) = true := hc
          rw [h] at h2; cases h2
        refine (if_neg hi).trans ((if_pos (decide_eq_true hlt)).trans ?_)
        rw [set32 hlt]; rfl
    · unfold shortV
      rw [hn]
      exact dem_nan hn
  · cases hd
theorem g10 : Snd 10 (proG (fun a => ifF (fitC 32 a) (proV a)) (fun a => errF (fitC 32 a))) := t_Pro
theorem g21 : Snd 21 (nonG (fun w a => mayL w [a] && isNW w a) (fun w a => errF (mayL w [a]))) := t_none
theorem back_num {x : Nat} (hx : x < 2 ^ 32) (h : fin Ieee.single x = true) : Ieee.single.write (Ieee.double.read (Ieee.double.write (Ieee.single.read x))) = x := by
  obtain ⟨a1, a2, a3⟩ := longer h
  rw [read_fin a1, a2]
  have hr := of_decide_eq_true h
  have e := nearest_exact Ieee.single (by rw [single_least]; omega) (ng Ieee.single x) (m := mg Ieee.double (Ieee.double.write (Ieee.single.read x))) (p := pl Ieee.double (Ieee.double.write (Ieee.single.read x))) (pl_ge two_d _) (r := rg Ieee.single x) hr (by
    rw [← wo_val two_s rfl, ← a3]; rfl)
  show Ieee.single.nearest _ _ _ = x
  rw [e]
  exact (word_of Ieee.single (x := x) hx).symm
theorem back_inf {x : Nat} (hx : x < 2 ^ 32) (h : fin Ieee.single x = false) (hn : isN Ieee.single x = false) : Ieee.single.write (Ieee.double.read (Ieee.double.write (Ieee.single.read x))) = x := by
  obtain ⟨a1, a2, a3⟩ := longer_inf h hn
  rw [read_infty two_d a1 a2, a3]
  have e : rg Ieee.single x = Ieee.single.infRung := by
    have a := of_decide_eq_false h
    have b := of_decide_eq_false hn
    omega
  show Ieee.single.word (ng Ieee.single x) Ieee.single.infRung = x
  rw [← e]
  exact (word_of Ieee.single (x := x) hx).symm
theorem back7 : Snd 7 (trueS fun | [.u32 _] => true | _ => false) := by
  refine Sound.guard (execFn_sound (ann := fun _ => []) (TableOK.cons g10 (TableOK.cons t_demB (TableOK.cons g21 (TableOK.cons t_works TableOK.nil)))) mixed Try.func7 (by kernel_rfl) 50) fun ds d h => ?_
  simp only [Option.some.injEq, Prod.mk.injEq] at h
  obtain ⟨h, rfl⟩ := h
  split at h
  · rename_i a
    refine (nf7 _ _ _ _ _ _ a).trans ?_
    have ea : (BitVec.setWidth 64 a).toNat = a.toNat := by rw [BitVec.toNat_setWidth]; have := a.isLt; omega
    have hlt : a.toNat < 2 ^ 32 := a.isLt
    have hc : fitC 32 (BitVec.setWidth 64 a) = true := by
      unfold fitC
      rw [sh32, ea, decide_eq_true hlt]; rfl
    have hL : mayL 32 [BitVec.setWidth 64 a] = true := by
      unfold mayL
      simp only [List.all_cons, List.all_nil, Bool.and_true, hc]; rfl
    have hp : ifF (fitC 32 (BitVec.setWidth 64 a)) (proV (BitVec.setWidth 64 a)) = proV (BitVec.setWidth 64 a) := by rw [hc]; rfl
    simp only [hp, hL, Bool.true_and]
    rw [hc]
    cases hn : isNW 32 (BitVec.setWidth 64 a)
    · have hn' : isN Ieee.single a.toNat = false := by
        have h2 : isN Ieee.single (BitVec.setWidth 64 a).toNat = false := hn
        rw [ea] at h2; exact h2
      have pv : proV (BitVec.setWidth 64 a) = BitVec.ofNat 64 (Ieee.double.write (Ieee.single.read a.toNat)) := by
        unfold proV wideN
        rw [hn, ea]; rfl
      have hw := wide_lt (w := 32) (by decide) hn
      have ew : wideN 32 (BitVec.setWidth 64 a) = Ieee.double.write (Ieee.single.read a.toNat) := by unfold wideN; rw [ea]; rfl
      rw [ew] at hw
      have en : (proV (BitVec.setWidth 64 a)).toNat = Ieee.double.write (Ieee.single.read a.toNat) := by rw [pv, BitVec.toNat_ofNat, Nat.mod_eq_of_lt hw]
      have hX : isNW 64 (proV (BitVec.setWidth 64 a)) = false := by
        show isN Ieee.double _ = false
        rw [en]
        cases hf : fin Ieee.single a.toNat
        · exact (longer_inf hf hn').2.1
        · exact fin_notN (longer hf).1
      have bk : Ieee.single.write (Ieee.double.read (proV (BitVec.setWidth 64 a)).toNat) = a.toNat := by
        rw [en]
        cases hf : fin Ieee.single a.toNat
        · exact back_inf hlt hf hn'
        · exact back_num hlt hf
      have hcm : cameB (proV (BitVec.setWidth 64 a)) = true := by
        unfold cameB
        rw [hX, Bool.false_or]
        split
        · rename_i hf
          rw [bk]
          have : fin Ieee.single a.toNat = true := by
            cases hf2 : fin Ieee.single a.toNat
            · rw [en] at hf
              rw [(longer_inf hf2 hn').1] at hf; cases hf
            · rfl
          rw [read_fin this]; rfl
        · rfl
      have sv : shortV (proV (BitVec.setWidth 64 a)) = BitVec.setWidth 64 a := by
        unfold shortV
        rw [hX, bk]
        apply BitVec.eq_of_toNat_eq
        rw [ea]
        show (BitVec.ofNat 64 a.toNat).toNat = _
        rw [BitVec.toNat_ofNat]; omega
      rw [if_pos hcm, sv, beq_self_eq_true]
      rfl
    · have pv : proV (BitVec.setWidth 64 a) = 9221120237041090560#64 := by unfold proV; rw [hn]; rfl
      rw [pv]
      have hX : isNW 64 9221120237041090560#64 = true := by decide
      have hcm : cameB 9221120237041090560#64 = true := by unfold cameB; rw [hX]; rfl
      have sv : shortV 9221120237041090560#64 = 2143289344#64 := by unfold shortV; rw [hX]; rfl
      rw [if_pos hcm, sv]
      rfl
  · cases h

end Go.L05
namespace Go.Proofs.Ytaabolgkoegohaa.convsBack
open Go Go.L05 Go.Ev Go.RowKit Go.ChangeShapes Go.WideShapes Go.ChangeAt
set_option maxRecDepth 100000 in
theorem lifted (os : Os) (started : os.Started) (H : Type) (enc : TypeId × Value → H) :
    ReturnsInHanded {} Try.checked os 7 .any (Rows.convsBackSpec.pre6 enc Try.prog Try.f7 Rows.convsBackRow.domain false) (Rows.convsBackSpec.post enc Try.prog Try.f7 false true false false) := by
  refine returnsInHanded_of_change (C := Try.checked) own started (by kernel_rfl) Try.func7
    (ChangeSpec.witness6 (enc := enc) (C := Try.checked) false ⟨#[], #[.int .u32 0], []⟩ 8 (by kernel_rfl) (by kernel_rfl) (by kernel_rfl) (by kernel_rfl)) ?_
  intro W base args ds gs before hval0 hW _ _
  have hval : ∀ (j : Nat) t v, Try.f7.params[j]? = some t → args[j]? = some v → Value.okWide Try.prog W .any base t v := hval0
  have hW' := hW
  obtain ⟨p, q, hA0, hV, rfl, hfz, hnd⟩ := hW
  have hA : DataW.TrodAll enc Try.prog W 0 (fun _ => true) true Try.f7.params.toList args.toList ds p := hA0
  rw [Try.params7] at hA hval
  obtain ⟨v0, vs0, d0, ds0, p0, q0, hargs, rfl, rfl, h0, r0⟩ := trodAll_cons hA
  obtain ⟨rfl, rfl, rfl⟩ := trodAll_nil r0
  obtain rfl : args = #[v0] := by cases args; simp_all
  obtain ⟨x0, l0⟩ := arg_u32 (own := none) Try.underlying32 (hval 0 32 v0 rfl rfl) h0
  refine (call_true back7 (ds := [.u32 x0]) rfl (by simp only [lie]; exact ⟨_, _, rfl, l0, rfl⟩) (by kernel_rfl)).mono fun e W' ⟨he, hb⟩ => ?_
  subst he
  exact ⟨_, rfl, post_law hW' hb laidOut (by kernel_rfl) rfl (by kernel_rfl) Try.underlying4 rfl⟩
end Go.Proofs.Ytaabolgkoegohaa.convsBack
namespace Go.Proofs.Ytaabolgkoegohaa
open Go

theorem convsBack_holds : Rows.ConvsBackSaid :=
  OpenClaim.holds_of_wide 7 Try.f7 rfl rfl rfl rfl rfl rfl rfl ⟨rfl, rfl, rfl, rfl, rfl⟩ rfl rfl rfl rfl rfl (by kernel_rfl) Try.func7 (by kernel_rfl)
    (of_decide_eq_true (by kernel_rfl)) (by unfold Func.isWrapper; first | (rw [if_pos (by decide +kernel)]; kernel_rfl) | (rw [if_neg (by decide +kernel)]; exact ⟨rfl, rfl⟩))
    (fun os started H enc _ => convsBack.lifted os started H enc)
#print axioms convsBack_holds
end Go.Proofs.Ytaabolgkoegohaa

/-
  Part of the proof; what its functions and lemmas say stands in the text.
-/
import Derived.Test.YtnbafdmlfpmfkaaGreatDoorQ23xA
import Derived.Test.YtnbafdmlfpmfkaaGreatDoorQ23xB
import Derived.Test.YtnbafdmlfpmfkaaGreatDoorQ23xC
set_option linter.unusedSimpArgs false
set_option linter.unusedVariables false
/-!
Layer 23: what the document answers for an instruction.
-/
set_option maxRecDepth 100000
set_option maxHeartbeats 0
namespace Go.L23
open Go.Ev Go.Proofs Go.RowKit Go.Wh

theorem end6 : AllP (fun i : Nat => ∀ (o : BitVec 16) (N : St → Option D) (E : Nat → St → Option D) (R : St → Option D), exA tabA c6 (S6 (lenG i) i o) (splitK keep6 N E R) = E 2 (E6 i o)) [0, 1, 2, 3, 4, 5, 6] := by
  refine AllP.cons ?_ (AllP.cons ?_ (AllP.cons ?_ (AllP.cons ?_ (AllP.cons ?_ (AllP.cons ?_ (AllP.cons ?_ (AllP.nil))))))) <;> (intro o N E R; kernel_rfl)
theorem mem7 (i : Fin 7) : i.val ∈ [0, 1, 2, 3, 4, 5, 6] := by
  have := i.isLt
  simp only [List.mem_cons, List.not_mem_nil, or_false]
  omega
noncomputable def F6 : LoopF := searchF Tryz.prog G0 tabB ann13 (fun _ => none) 50 c6 keep6 (fun k (a : Fin 7 × BitVec 16) => S6 k a.1.val a.2) (fun a => lenG a.1.val) (fun k a => out6 a.1.val a.2 k) 2 (fun a => E6 a.1.val a.2)
theorem skip6 (i : Fin 7) : ∀ k, k < lenG i.val → Sk i.val k := by
  intro k hk
  have h : i = 0 ∨ i = 1 ∨ i = 2 ∨ i = 3 ∨ i = 4 ∨ i = 5 ∨ i = 6 := by omega
  rcases h with rfl | rfl | rfl | rfl | rfl | rfl | rfl
  · have hk2 : k < 30 := hk
    exact sk6_0.mem (by simp only [List.mem_cons, List.not_mem_nil, or_false]; omega)
  · have hk2 : k < 31 := hk
    exact sk6_1.mem (by simp only [List.mem_cons, List.not_mem_nil, or_false]; omega)
  · have hk2 : k < 17 := hk
    exact sk6_2.mem (by simp only [List.mem_cons, List.not_mem_nil, or_false]; omega)
  · have hk2 : k < 13 := hk
    exact sk6_3.mem (by simp only [List.mem_cons, List.not_mem_nil, or_false]; omega)
  · have hk2 : k < 18 := hk
    exact sk6_4.mem (by simp only [List.mem_cons, List.not_mem_nil, or_false]; omega)
  · have hk2 : k < 16 := hk
    exact sk6_5.mem (by simp only [List.mem_cons, List.not_mem_nil, or_false]; omega)
  · have hk2 : k < 10 := hk
    exact sk6_6.mem (by simp only [List.mem_cons, List.not_mem_nil, or_false]; omega)
theorem sem6 : SemOK Tryz.prog G0 c6 F6 := by
  refine SemOK.search mixed 50 ok_tabA ok_tabB LsOK.none LsOK.none (ann1 := ann13) (ls1 := fun _ => none) (fun k a hk ho N E R => ?_) (fun a N E R => end6.mem (mem7 a.1) a.2 N E R)
  exact (skip6 a.1 k hk a.2 N E R).trans (pick6 ho)
theorem gen3 : AllP (fun i : Nat => ∀ (F : LoopF) (o : BitVec 16) (K : Ex → St → Option D), exB F (S3 i o) K = F (T6 i o) (KF6 i o K)) [0, 1, 2, 3, 4, 5, 6] := by
  refine AllP.cons ?_ (AllP.cons ?_ (AllP.cons ?_ (AllP.cons ?_ (AllP.cons ?_ (AllP.cons ?_ (AllP.cons ?_ (AllP.nil))))))) <;> (intro F o K; kernel_rfl)
theorem can6 : AllP (fun i : Nat => ∀ (o : BitVec 16), canon keep6 (T6 i o) = S6 0 i o) [0, 1, 2, 3, 4, 5, 6] := by
  refine AllP.cons ?_ (AllP.cons ?_ (AllP.cons ?_ (AllP.cons ?_ (AllP.cons ?_ (AllP.cons ?_ (AllP.cons ?_ (AllP.nil))))))) <;> (intro o; kernel_rfl)
theorem next6 : AllP (fun i : Nat => ∀ (o : BitVec 16) (N : St → Option D) (E : Nat → St → Option D) (R : St → Option D), KF6 i o (splitK keep3 N E R) (.exit 2) (E6 i o) = N (S3 (i + 1) o)) [0, 1, 2, 3, 4, 5, 6] := by
  refine AllP.cons ?_ (AllP.cons ?_ (AllP.cons ?_ (AllP.cons ?_ (AllP.cons ?_ (AllP.cons ?_ (AllP.cons ?_ (AllP.nil))))))) <;> (intro o N E R; kernel_rfl)
theorem in6 (i : Fin 7) (o : BitVec 16) (K : Ex → St → Option D) : exB F6 (S3 i.val o) K = match where6 i.val o with
    | none => KF6 i.val o K (.exit 2) (E6 i.val o)
    | some j => exA tabB c6 (S6 j i.val o) (fun e st' => match e with | .ret => KF6 i.val o K .ret st' | _ => none) := by
  rw [gen3.mem (mem7 i)]
  unfold F6
  rw [searchF_at (S := fun k (a : Fin 7 × BitVec 16) => S6 k a.1.val a.2) (fun a b e => Prod.ext (Fin.ext (S6_inj e).1) (S6_inj e).2) (a := (i, o)) (can6.mem (mem7 i) o)]
  show (match where6 i.val o with | none => _ | some j => _) = _
  cases where6 i.val o <;> rfl
theorem ls6 : LsOK Tryz.prog G0 (lsOf [(6, F6)]) c3 := LsOK.of (by rw [show (loops c3).map firstId = [6] by kernel_rfl]; decide) (fun x hx => by
  simp only [List.mem_cons, List.not_mem_nil, or_false] at hx
  subst hx
  have e : findLoop (loops c3) 6 = c6 := by kernel_rfl
  show SemOK Tryz.prog G0 (findLoop (loops c3) 6) F6
  rw [e]
  exact sem6)
noncomputable def F3 : LoopF := searchF Tryz.prog G0 (tabOf []) ann13 (lsOf [(6, F6)]) 50 c3 keep3 (fun i (o : BitVec 16) => S3 i o) (fun _ => 7) out3 0 E3
theorem end3 (o : BitVec 16) (N : St → Option D) (E : Nat → St → Option D) (R : St → Option D) : exB F6 (S3 7 o) (splitK keep3 N E R) = E 0 (E3 o) := by
  have h : ∀ F : LoopF, exB F (S3 7 o) (splitK keep3 N E R) = E 0 (E3 o) := fun F => by kernel_rfl
  exact h F6
theorem sem3 : SemOK Tryz.prog G0 c3 F3 := by
  refine SemOK.search mixed 50 TableOK.nil TableOK.nil ls6 ls6 (ann1 := ann13) (fun i o hi ho N E R => ?_) (fun o N E R => end3 o N E R)
  have h := in6 ⟨i, hi⟩ o (splitK keep3 N E R)
  have hn : where6 i o = none := by simpa [out3] using ho
  rw [show (⟨i, hi⟩ : Fin 7).val = i from rfl, hn] at h
  exact h.trans (next6.mem (mem7 ⟨i, hi⟩) o N E R)
theorem ls3 : LsOK Tryz.prog G0 (lsOf [(3, F3)]) (Tryz.f13.body.getD .skip) := LsOK.of (by rw [show (loops (Tryz.f13.body.getD .skip)).map firstId = [3, 6] by kernel_rfl]; decide) (fun x hx => by
  simp only [List.mem_cons, List.not_mem_nil, or_false] at hx
  subst hx
  exact sem3)
noncomputable def Xro : Ev.Spec := execFnL Tryz.prog G0 (tabOf [(44, famS)]) ann13 (lsOf [(3, F3)]) Tryz.f13 50
theorem t_Xro : Snd 13 Xro := execFnL_sound (TableOK.cons t_famS TableOK.nil) mixed Tryz.func13 (by kernel_rfl) 50 fun c hc => by
  have e : c = Tryz.f13.body.getD .skip := by rw [hc]; rfl
  rw [e]; exact ls3
theorem start13 (F : LoopF) (o : BitVec 16) : execFnL Tryz.prog G0 (tabOf [(44, famS)]) ann13 (lsOf [(3, F)]) Tryz.f13 50 [.u16 o] some = F (T3 o) (KF13 o) := by kernel_rfl
theorem can3 (o : BitVec 16) : canon keep3 (T3 o) = S3 0 o := by kernel_rfl
theorem fin13 (o : BitVec 16) : KF13 o (.exit 0) (E3 o) = some (.tup [noInfo, .i .i64 11]) := by kernel_rfl
noncomputable abbrev K3 (o : BitVec 16) : Ex → St → Option D := fun e st' => match e with | .ret => KF13 o .ret st' | _ => none
/-- A family's row, where it is found. -/
noncomputable abbrev foundR (i j : Nat) (o : BitVec 16) : Option D := exA tabB c6 (S6 j i o) (fun e st' => match e with | .ret => KF6 i o (K3 o) .ret st' | _ => none)
theorem atR (o : BitVec 16) : Xro [.u16 o] some = match where3 o with
    | none => some (.tup [noInfo, .i .i64 11])
    | some i => foundR i ((where6 i o).getD 0) o := by
  unfold Xro
  rw [start13]
  unfold F3
  rw [searchF_at (S := fun i (o : BitVec 16) => S3 i o) (fun a b e => S3_inj e) (can3 o)]
  show (match where3 o with | none => _ | some j => _) = _
  cases hw : where3 o with
  | none => exact fin13 o
  | some i =>
    have hi : i < 7 := List.mem_range.1 (List.mem_of_find?_eq_some hw)
    have ho : out3 i o = false := by simpa using List.find?_some hw
    show exB F6 (S3 i o) (K3 o) = foundR i ((where6 i o).getD 0) o
    refine (in6 ⟨i, hi⟩ o (K3 o)).trans ?_
    show (match where6 i o with | none => _ | some j => _) = _
    cases h6 : where6 i o with
    | none => rw [out3, h6] at ho; cases ho
    | some j => rfl
noncomputable abbrev foundAt (x : Ins) : Option D := foundR ((where3 (BitVec.ofNat 16 x.op)).getD 0) ((where6 ((where3 (BitVec.ofNat 16 x.op)).getD 0) (BitVec.ofNat 16 x.op)).getD 0) (BitVec.ofNat 16 x.op)
end Go.L23

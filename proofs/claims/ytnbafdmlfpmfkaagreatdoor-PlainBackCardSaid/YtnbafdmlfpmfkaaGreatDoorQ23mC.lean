/-
  Part of the proof; what its functions and lemmas say stands in the text.
-/
import Derived.Test.YtnbafdmlfpmfkaaGreatDoorQ23M
set_option linter.unusedSimpArgs false
set_option linter.unusedVariables false
/-!
Layer 23: find in a table of instructions (control).
-/
set_option maxRecDepth 100000
set_option maxHeartbeats 0
namespace Go.L23
open Go.Ev Go.Proofs Go.RowKit Go.Wh

def cellsC : List SV := cellsOf controlD
def tabC : List (Int × Int) := [(0, 1), (2, 2), (12, 1), (14, 0), (15, 0), (16, 0), (17, 0), (26, 1), (28, 0), (32, 2), (35, 1), (37, 1), (40, 3), (44, 3), (48, 5), (54, 3), (58, 4), (63, 1), (208, 0), (209, 0), (210, 0)]
theorem skC : AllP (fun k : Nat => ∀ (n : Int) (N : St → Option D) (E : Nat → St → Option D) (R : St → Option D), exec Tryz.prog G0 tab1 ann177 (fun _ => none) 50 c177 (Sf cellsC 21 k n) (splitK keep177 N E R) = if decide (n < fstF tabC k) = false then (if decide (sndF tabC k < IntKind.i64.wrap (n - fstF tabC k)) = true then N (Sf cellsC 21 (k + 1) n) else none) else N (Sf cellsC 21 (k + 1) n)) [0, 1, 2, 3, 4, 5, 6, 7, 8, 9, 10, 11, 12, 13, 14, 15, 16, 17, 18, 19, 20] := by
  refine AllP.cons ?_ (AllP.cons ?_ (AllP.cons ?_ (AllP.cons ?_ (AllP.cons ?_ (AllP.cons ?_ (AllP.cons ?_ (AllP.cons ?_ (AllP.cons ?_ (AllP.cons ?_ (AllP.cons ?_ (AllP.cons ?_ (AllP.cons ?_ (AllP.cons ?_ (AllP.cons ?_ (AllP.cons ?_ (AllP.cons ?_ (AllP.cons ?_ (AllP.cons ?_ (AllP.cons ?_ (AllP.cons ?_ (AllP.nil))))))))))))))))))))) <;> (intro n N E R; kernel_rfl)
theorem endC (n : Int) (N : St → Option D) (E : Nat → St → Option D) (R : St → Option D) : exec Tryz.prog G0 tab1 ann177 (fun _ => none) 50 c177 (Sf cellsC 21 21 n) (splitK keep177 N E R) = E 0 (Ef cellsC 21 n) := by kernel_rfl
noncomputable def FC : LoopF := searchF Tryz.prog G0 tab2 ann177 (fun _ => none) 50 c177 keep177 (Sf cellsC 21) (fun _ => 21) (outF tabC) 0 (Ef cellsC 21)
theorem semC : SemOK Tryz.prog G0 c177 FC := by
  refine SemOK.search mixed 50 ok_tab1 ok_tab2 LsOK.none LsOK.none (ann1 := ann177) (ls1 := fun _ => none) (fun k n hk ho N E R => ?_) (fun n N E R => endC n N E R)
  have hk' : k < 21 := hk
  have hm := skC.mem (a := k) (by simp only [List.mem_cons, List.not_mem_nil, or_false]; omega)
  exact (hm n N E R).trans (skip_pick ho)
theorem lsC : LsOK Tryz.prog G0 (lsOf [(2, FC)]) (Tryz.f177.body.getD .skip) := LsOK.of (by rw [show (loops (Tryz.f177.body.getD .skip)).map firstId = [2, 8] by kernel_rfl]; decide) (fun x hx => by
  simp only [List.mem_cons, List.not_mem_nil, or_false] at hx
  subst hx
  exact semC)
noncomputable def XC : Ev.Spec := execFnL Tryz.prog G0 (tabOf []) ann177 (lsOf [(2, FC)]) Tryz.f177 50
theorem t_XC : Snd 177 XC := execFnL_sound TableOK.nil mixed Tryz.func177 (by kernel_rfl) 50 fun c hc => by
  have e : c = Tryz.f177.body.getD .skip := by rw [hc]; rfl
  rw [e]; exact lsC
theorem startC (F : LoopF) (n : Int) : execFnL Tryz.prog G0 (tabOf []) ann177 (lsOf [(2, F)]) Tryz.f177 50 [controlD, .i .i64 n] some = F (Tf cellsC 21 n) (KFf controlD n) := by kernel_rfl
theorem canC (n : Int) : canon keep177 (Tf cellsC 21 n) = Sf cellsC 21 0 n := by kernel_rfl
theorem finC (n : Int) : KFf controlD n (.exit 0) (Ef cellsC 21 n) = some zfind := by kernel_rfl
def insC : List Ins := [⟨0, [117, 110, 114, 101, 97, 99, 104, 97, 98, 108, 101], [58], 0, 0, false⟩,
  ⟨1, [110, 111, 112], [58], 0, 0, false⟩,
  ⟨2, [98, 108, 111, 99, 107], [58], 1, 0, false⟩,
  ⟨3, [108, 111, 111, 112], [58], 1, 0, false⟩,
  ⟨4, [105, 102], [58], 1, 0, false⟩,
  ⟨12, [98, 114], [58], 2, 0, false⟩,
  ⟨13, [98, 114, 95, 105, 102], [58], 2, 0, false⟩,
  ⟨14, [98, 114, 95, 116, 97, 98, 108, 101], [58], 3, 0, false⟩,
  ⟨15, [114, 101, 116, 117, 114, 110], [58], 0, 0, false⟩,
  ⟨16, [99, 97, 108, 108], [58], 4, 0, false⟩,
  ⟨17, [99, 97, 108, 108, 95, 105, 110, 100, 105, 114, 101, 99, 116], [58], 5, 0, false⟩,
  ⟨26, [100, 114, 111, 112], [58], 0, 0, false⟩,
  ⟨27, [115, 101, 108, 101, 99, 116], [58], 0, 0, false⟩,
  ⟨28, [115, 101, 108, 101, 99, 116, 95, 116], [58], 26, 0, false⟩,
  ⟨32, [108, 111, 99, 97, 108, 46, 103, 101, 116], [58], 6, 0, false⟩,
  ⟨33, [108, 111, 99, 97, 108, 46, 115, 101, 116], [58], 6, 0, false⟩,
  ⟨34, [108, 111, 99, 97, 108, 46, 116, 101, 101], [58], 6, 0, false⟩,
  ⟨35, [103, 108, 111, 98, 97, 108, 46, 103, 101, 116], [58], 7, 0, false⟩,
  ⟨36, [103, 108, 111, 98, 97, 108, 46, 115, 101, 116], [58], 7, 0, false⟩,
  ⟨37, [116, 97, 98, 108, 101, 46, 103, 101, 116], [58], 8, 0, false⟩,
  ⟨38, [116, 97, 98, 108, 101, 46, 115, 101, 116], [58], 8, 0, false⟩,
  ⟨40, [105, 51, 50, 46, 108, 111, 97, 100], [105, 58, 105], 16, 32, false⟩,
  ⟨41, [105, 54, 52, 46, 108, 111, 97, 100], [105, 58, 108], 16, 64, false⟩,
  ⟨42, [102, 51, 50, 46, 108, 111, 97, 100], [105, 58, 102], 16, 32, false⟩,
  ⟨43, [102, 54, 52, 46, 108, 111, 97, 100], [105, 58, 100], 16, 64, false⟩,
  ⟨44, [105, 51, 50, 46, 108, 111, 97, 100, 56, 95, 115], [105, 58, 105], 16, 8, false⟩,
  ⟨45, [105, 51, 50, 46, 108, 111, 97, 100, 56, 95, 117], [105, 58, 105], 16, 8, false⟩,
  ⟨46, [105, 51, 50, 46, 108, 111, 97, 100, 49, 54, 95, 115], [105, 58, 105], 16, 16, false⟩,
  ⟨47, [105, 51, 50, 46, 108, 111, 97, 100, 49, 54, 95, 117], [105, 58, 105], 16, 16, false⟩,
  ⟨48, [105, 54, 52, 46, 108, 111, 97, 100, 56, 95, 115], [105, 58, 108], 16, 8, false⟩,
  ⟨49, [105, 54, 52, 46, 108, 111, 97, 100, 56, 95, 117], [105, 58, 108], 16, 8, false⟩,
  ⟨50, [105, 54, 52, 46, 108, 111, 97, 100, 49, 54, 95, 115], [105, 58, 108], 16, 16, false⟩,
  ⟨51, [105, 54, 52, 46, 108, 111, 97, 100, 49, 54, 95, 117], [105, 58, 108], 16, 16, false⟩,
  ⟨52, [105, 54, 52, 46, 108, 111, 97, 100, 51, 50, 95, 115], [105, 58, 108], 16, 32, false⟩,
  ⟨53, [105, 54, 52, 46, 108, 111, 97, 100, 51, 50, 95, 117], [105, 58, 108], 16, 32, false⟩,
  ⟨54, [105, 51, 50, 46, 115, 116, 111, 114, 101], [105, 105, 58], 16, 32, false⟩,
  ⟨55, [105, 54, 52, 46, 115, 116, 111, 114, 101], [105, 108, 58], 16, 64, false⟩,
  ⟨56, [102, 51, 50, 46, 115, 116, 111, 114, 101], [105, 102, 58], 16, 32, false⟩,
  ⟨57, [102, 54, 52, 46, 115, 116, 111, 114, 101], [105, 100, 58], 16, 64, false⟩,
  ⟨58, [105, 51, 50, 46, 115, 116, 111, 114, 101, 56], [105, 105, 58], 16, 8, false⟩,
  ⟨59, [105, 51, 50, 46, 115, 116, 111, 114, 101, 49, 54], [105, 105, 58], 16, 16, false⟩,
  ⟨60, [105, 54, 52, 46, 115, 116, 111, 114, 101, 56], [105, 108, 58], 16, 8, false⟩,
  ⟨61, [105, 54, 52, 46, 115, 116, 111, 114, 101, 49, 54], [105, 108, 58], 16, 16, false⟩,
  ⟨62, [105, 54, 52, 46, 115, 116, 111, 114, 101, 51, 50], [105, 108, 58], 16, 32, false⟩,
  ⟨63, [109, 101, 109, 111, 114, 121, 46, 115, 105, 122, 101], [58, 105], 14, 0, false⟩,
  ⟨64, [109, 101, 109, 111, 114, 121, 46, 103, 114, 111, 119], [105, 58, 105], 14, 0, false⟩,
  ⟨208, [114, 101, 102, 46, 110, 117, 108, 108], [58], 25, 0, false⟩,
  ⟨209, [114, 101, 102, 46, 105, 115, 95, 110, 117, 108, 108], [58], 0, 0, false⟩,
  ⟨210, [114, 101, 102, 46, 102, 117, 110, 99], [58], 4, 0, false⟩]
theorem foC : AllP (fun i : Ins => exec Tryz.prog G0 tab2 ann177 (fun _ => none) 50 c177 (Sf cellsC 21 ((whereF 21 tabC ((i.op - 0 : Nat) : Int)).getD 0) ((i.op - 0 : Nat) : Int)) (fun e st' => match e with | .ret => KFf controlD ((i.op - 0 : Nat) : Int) .ret st' | _ => none) = some (rowD i)) insC := by
  refine AllP.cons ?_ (AllP.cons ?_ (AllP.cons ?_ (AllP.cons ?_ (AllP.cons ?_ (AllP.cons ?_ (AllP.cons ?_ (AllP.cons ?_ (AllP.cons ?_ (AllP.cons ?_ (AllP.cons ?_ (AllP.cons ?_ (AllP.cons ?_ (AllP.cons ?_ (AllP.cons ?_ (AllP.cons ?_ (AllP.cons ?_ (AllP.cons ?_ (AllP.cons ?_ (AllP.cons ?_ (AllP.cons ?_ (AllP.cons ?_ (AllP.cons ?_ (AllP.cons ?_ (AllP.cons ?_ (AllP.cons ?_ (AllP.cons ?_ (AllP.cons ?_ (AllP.cons ?_ (AllP.cons ?_ (AllP.cons ?_ (AllP.cons ?_ (AllP.cons ?_ (AllP.cons ?_ (AllP.cons ?_ (AllP.cons ?_ (AllP.cons ?_ (AllP.cons ?_ (AllP.cons ?_ (AllP.cons ?_ (AllP.cons ?_ (AllP.cons ?_ (AllP.cons ?_ (AllP.cons ?_ (AllP.cons ?_ (AllP.cons ?_ (AllP.cons ?_ (AllP.cons ?_ (AllP.cons ?_ (AllP.nil))))))))))))))))))))))))))))))))))))))))))))))))) <;> (as_aux_lemma => kernel_rfl)
theorem atC (n : Int) (d : D) (h : resF 21 tabC 0 insC n = some d) : XC [controlD, .i .i64 n] some = some d := by
  unfold XC
  rw [startC]
  unfold FC
  rw [searchF_at (fun a b e => Sf_inj e) (canC n)]
  unfold resF whereF at h
  split at h
  · rename_i hn
    cases h
    rw [hn]
    exact finC n
  · rename_i j hj
    rw [hj]
    split at h
    · rename_i h0
      simp only [Option.map_eq_some_iff] at h
      obtain ⟨i, hi, rfl⟩ := h
      obtain ⟨hm, ho⟩ := lookO_mem hi
      have h2 := foC.mem hm
      have e : ((i.op - 0 : Nat) : Int) = n := by
        have := of_decide_eq_true h0
        omega
      simp only [e, whereF, hj, Option.getD_some] at h2
      exact h2
    · cases h
end Go.L23

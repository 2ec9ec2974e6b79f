/-
  Part of the proof; what its functions and lemmas say stands in the text.
-/
import Derived.Test.YtnbafdmlfpmfkaaGreatDoorQ23M
set_option linter.unusedSimpArgs false
set_option linter.unusedVariables false
set_option maxRecDepth 100000
set_option maxHeartbeats 0
namespace Go.L23
open Go.Ev Go.Proofs Go.RowKit Go.Wh
def cellsC : List SV := cellsOf controlD
def tabC : List (Int × Int) := [(0, 1), (2, 2), (12, 1), (14, 0), (15, 0), (16, 0), (17, 0), (26, 1), (28, 0), (32, 2), (35, 1), (37, 1), (40, 3), (44, 3), (48, 5), (54, 3), (58, 4), (63, 1), (208, 0), (209, 0), (210, 0)]
theorem skC : AllP (fun k : Nat => ∀ (n : Int) (N : St → Option D) (E : Nat → St → Option D) (R : St → Option D), exec Tryz.prog G0 tab1 ann177 (fun _ => none) 50 c177 (Sf cellsC 21 k n) (splitK keep177 N E R) = if decide (n < fstF tabC k) = false then (if decide (sndF tabC k < IntKind.i64.wrap (n - fstF tabC k)) = true then N (Sf cellsC 21 (k + 1) n) else none) else N (Sf cellsC 21 (k + 1) n)) [0, 1, 2, 3, 4, 5, 6, 7, 8, 9, 10, 11, 12, 13, 14, 15, 16, 17, 18, 19, 20] := by
 refine AllP.cons ?_ (AllP.cons ?_ (AllP.cons ?_ (AllP.cons ?_ (AllP.cons ?_ (AllP.cons ?_ (AllP.cons ?_ (AllP.cons ?_ (AllP.cons ?_ (AllP.cons ?_ (AllP.cons ?_ (AllP.cons ?_ (AllP.cons ?_ (AllP.cons ?_ (AllP.cons ?_ (AllP.cons ?_ (AllP.cons ?_ (AllP.cons ?_ (AllP.cons ?_ (AllP.cons ?_ (AllP.cons ?_ (AllP.nil))))))))))))))))))))) <;> (intro n N E R; kernel_rfl)
theorem endC (n : Int) (N : St → Option D) (E : Nat → St → Option D) (R : St → Option D) : exec Tryz.prog G0 tab1 ann177 (fun _ => none) 50 c177 (Sf cellsC 21 21 n) (splitK keep177 N E R) = E 0 (Ef cellsC 21 n) := by kernel_rfl
noncomputable def FC : LoopF := searchF Tryz.prog G0 tab2 ann177 (fun _ => none) 50 c177 keep177 (Sf cellsC 21) (fun _ => 21) (outF tabC) 0 (Ef cellsC 21)
theorem semC : SemOK Tryz.prog G0 c177 FC := by
 refine SemOK.search mixed 50 ok_tab1 ok_tab2 LsOK.none LsOK.none (ann1 := ann177) (ls1 := fun _ => none) (fun k n hk ho N E R => ?_) (fun n N E R => endC n N E R)
 have hk' : k < 21 := hk
 have hm := skC.mem (a := k) (by simp only [List.mem_cons, List.not_mem_nil, or_false]; omega)
 exact (hm n N E R).trans (skip_pick ho)
theorem lsC : LsOK Tryz.prog G0 (lsOf [(2, FC)]) (Tryz.f177.body.getD .skip) := LsOK.of (by rw [show (loops (Tryz.f177.body.getD .skip)).map firstId = [2, 8] by kernel_rfl]; decide) (fun x hx => by
 simp only [List.mem_cons, List.not_mem_nil, or_false] at hx
 subst hx
 exact semC)
noncomputable def XC : Ev.Spec := execFnL Tryz.prog G0 (tabOf []) ann177 (lsOf [(2, FC)]) Tryz.f177 50
theorem t_XC : Snd 177 XC := execFnL_sound TableOK.nil mixed Tryz.func177 (by kernel_rfl) 50 fun c hc => by
 have e : c = Tryz.f177.body.getD .skip := by rw [hc]; rfl
 rw [e]; exact lsC
theorem startC (F : LoopF) (n : Int) : execFnL Tryz.prog G0 (tabOf []) ann177 (lsOf [(2, F)]) Tryz.f177 50 [controlD, .i .i64 n] some = F (Tf cellsC 21 n) (KFf controlD n) := by kernel_rfl
theorem canC (n : Int) : canon keep177 (Tf cellsC 21 n) = Sf cellsC 21 0 n := by kernel_rfl
theorem finC (n : Int) : KFf controlD n (.exit 0) (Ef cellsC 21 n) = some zfind := by kernel_rfl
def insC : List Ins := [⟨0, [117, 110, 114, 101, 97, 99, 104, 97, 98, 108, 101], [58], 0, 0, false⟩,
 ⟨1, [110, 111, 112], [58], 0, 0, false⟩,
 ⟨2, [98, 108, 111, 99, 107], [58], 1, 0, false⟩,
 ⟨3, [108, 111, 111, 112], [58], 1, 0, false⟩,
 ⟨4, [105, 102], [58], 1, 0, false⟩,
 ⟨12, [98, 114], [58], 2, 0, false⟩,
 ⟨13, [98, 114, 95, 105, 102], [58], 2, 0, false⟩,
 ⟨14, [98, 114, 95, 116, 97, 98, 108, 101], [58], 3, 0, false⟩,
 ⟨15, [114, 101, 116, 117, 114, 110], [58], 0, 0, false⟩,
 ⟨16, [99, 97, 108, 108], [58], 4, 0, false⟩,
 ⟨17, [99, 97, 108, 108, 95, 105, 110, 100, 105, 114, 101, 99, 116], [58], 5, 0, false⟩,
 ⟨26, [100, 114, 111, 112], [58], 0, 0, false⟩,
 ⟨27, [115, 101, 108, 101, 99, 116], [58], 0, 0, false⟩,
 ⟨28, [115, 101, 108, 101, 99, 116, 95, 116], [58], 26, 0, false⟩,
 ⟨32, [108, 111, 99, 97, 108, 46, 103, 101, 116], [58], 6, 0, false⟩,
 ⟨33, [108, 111, 99, 97, 108, 46, 115, 101, 116], [58], 6, 0, false⟩,
 ⟨34, [108, 111, 99, 97, 108, 46, 116, 101, 101], [58], 6, 0, false⟩,
 ⟨35, [103, 108, 111, 98, 97, 108, 46, 103, 101, 116], [58], 7, 0, false⟩,
 ⟨36, [103, 108, 111, 98, 97, 108, 46, 115, 101, 116], [58], 7, 0, false⟩,
 ⟨37, [116, 97, 98, 108, 101, 46, 103, 101, 116], [58], 8, 0, false⟩,
 ⟨38, [116, 97, 98, 108, 101, 46, 115, 101, 116], [58], 8, 0, false⟩,
 ⟨40, [105, 51, 50, 46, 108, 111, 97, 100], [105, 58, 105], 16, 32, false⟩,
 ⟨41, [105, 54, 52, 46, 108, 111, 97, 100], [105, 58, 108], 16, 64, false⟩,
 ⟨42, [102, 51, 50, 46, 108, 111, 97, 100], [105, 58, 102], 16, 32, false⟩,
 ⟨43, [102, 54, 52, 46, 108, 111, 97, 100], [105, 58, 100], 16, 64, false⟩,
 ⟨44, [105, 51, 50, 46, 108, 111, 97, 100, 56, 95, 115], [105, 58, 105], 16, 8, false⟩,
 ⟨45, [105, 51, 50, 46, 108, 111, 97, 100, 56, 95, 117], [105, 58, 105], 16, 8, false⟩,
 ⟨46, [105, 51, 50, 46, 108, 111, 97, 100, 49, 54, 95, 115], [105, 58, 105], 16, 16, false⟩,
 ⟨47, [105, 51, 50, 46, 108, 111, 97, 100, 49, 54, 95, 117], [105, 58, 105], 16, 16, false⟩,
 ⟨48, [105, 54, 52, 46, 108, 111, 97, 100, 56, 95, 115], [105, 58, 108], 16, 8, false⟩,
 ⟨49, [105, 54, 52, 46, 108, 111, 97, 100, 56, 95, 117], [105, 58, 108], 16, 8, false⟩,
 ⟨50, [105, 54, 52, 46, 108, 111, 97, 100, 49, 54, 95, 115], [105, 58, 108], 16, 16, false⟩,
 ⟨51, [105, 54, 52, 46, 108, 111, 97, 100, 49, 54, 95, 117], [105, 58, 108], 16, 16, false⟩,
 ⟨52, [105, 54, 52, 46, 108, 111, 97, 100, 51, 50, 95, 115], [105, 58, 108], 16, 32, false⟩,
 ⟨53, [105, 54, 52, 46, 108, 111, 97, 100, 51, 50, 95, 117], [105, 58, 108], 16, 32, false⟩,
 ⟨54, [105, 51, 50, 46, 115, 116, 111, 114, 101], [105, 105, 58], 16, 32, false⟩,
 ⟨55, [105, 54, 52, 46, 115, 116, 111, 114, 101], [105, 108, 58], 16, 64, false⟩,
 ⟨56, [102, 51, 50, 46, 115, 116, 111, 114, 101], [105, 102, 58], 16, 32, false⟩,
 ⟨57, [102, 54, 52, 46, 115, 116, 111, 114, 101], [105, 100, 58], 16, 64, false⟩,
 ⟨58, [105, 51, 50, 46, 115, 116, 111, 114, 101, 56], [105, 105, 58], 16, 8, false⟩,
 ⟨59, [105, 51, 50, 46, 115, 116, 111, 114, 101, 49, 54], [105, 105, 58], 16, 16, false⟩,
 ⟨60, [105, 54, 52, 46, 115, 116, 111, 114, 101, 56], [105, 108, 58], 16, 8, false⟩,
 ⟨61, [105, 54, 52, 46, 115, 116, 111, 114, 101, 49, 54], [105, 108, 58], 16, 16, false⟩,
 ⟨62, [105, 54, 52, 46, 115, 116, 111, 114, 101, 51, 50], [105, 108, 58], 16, 32, false⟩,
 ⟨63, [109, 101, 109, 111, 114, 121, 46, 115, 105, 122, 101], [58, 105], 14, 0, false⟩,
 ⟨64, [109, 101, 109, 111, 114, 121, 46, 103, 114, 111, 119], [105, 58, 105], 14, 0, false⟩,
 ⟨208, [114, 101, 102, 46, 110, 117, 108, 108], [58], 25, 0, false⟩,
 ⟨209, [114, 101, 102, 46, 105, 115, 95, 110, 117, 108, 108], [58], 0, 0, false⟩,
 ⟨210, [114, 101, 102, 46, 102, 117, 110, 99], [58], 4, 0, false⟩]
theorem foC : AllP (fun i : Ins => exec Tryz.prog G0 tab2 ann177 (fun _ => none) 50 c177 (Sf cellsC 21 ((whereF 21 tabC ((i.op - 0 : Nat) : Int)).getD 0) ((i.op - 0 : Nat) : Int)) (fun e st' => match e with | .ret => KFf controlD ((i.op - 0 : Nat) : Int) .ret st' | _ => none) = some (rowD i)) insC := by
 refine AllP.cons ?_ (AllP.cons ?_ (AllP.cons ?_ (AllP.cons ?_ (AllP.cons ?_ (AllP.cons ?_ (AllP.cons ?_ (AllP.cons ?_ (AllP.cons ?_ (AllP.cons ?_ (AllP.cons ?_ (AllP.cons ?_ (AllP.cons ?_ (AllP.cons ?_ (AllP.cons ?_ (AllP.cons ?_ (AllP.cons ?_ (AllP.cons ?_ (AllP.cons ?_ (AllP.cons ?_ (AllP.cons ?_ (AllP.cons ?_ (AllP.cons ?_ (AllP.cons ?_ (AllP.cons ?_ (AllP.cons ?_ (AllP.cons ?_ (AllP.cons ?_ (AllP.cons ?_ (AllP.cons ?_ (AllP.cons ?_ (AllP.cons ?_ (AllP.cons ?_ (AllP.cons ?_ (AllP.cons ?_ (AllP.cons ?_ (AllP.cons ?_ (AllP.cons ?_ (AllP.cons ?_ (AllP.cons ?_ (AllP.cons ?_ (AllP.cons ?_ (AllP.cons ?_ (AllP.cons ?_ (AllP.cons ?_ (AllP.cons ?_ (AllP.cons ?_ (AllP.cons ?_ (AllP.cons ?_ (AllP.nil))))))))))))))))))))))))))))))))))))))))))))))))) <;> (as_aux_lemma => kernel_rfl)
theorem atC (n : Int) (d : D) (h : resF 21 tabC 0 insC n = some d) : XC [controlD, .i .i64 n] some = some d := by
 unfold XC
 rw [startC]
 unfold FC
 rw [searchF_at (fun a b e => Sf_inj e) (canC n)]
 unfold resF whereF at h
 split at h
 ·rename_i hn
  cases h
  rw [hn]
  exact finC n
 ·rename_i j hj
  rw [hj]
  split at h
  ·rename_i h0
   simp only [Option.map_eq_some_iff] at h
   obtain ⟨i, hi, rfl⟩ := h
   obtain ⟨hm, ho⟩ := lookO_mem hi
   have h2 := foC.mem hm
   have e : ((i.op - 0 : Nat) : Int) = n := by
    have := of_decide_eq_true h0
    omega
   simp only [e, whereF, hj, Option.getD_some] at h2
   exact h2
  ·cases h
end Go.L23
set_option maxRecDepth 100000
set_option maxHeartbeats 0
namespace Go.L23
open Go.Ev Go.Proofs Go.RowKit Go.Wh
def cellsM : List SV := cellsOf miscD
def tabM : List (Int × Int) := [(0, 3), (4, 3), (8, 0), (9, 0), (10, 0), (11, 0), (12, 0), (13, 0), (14, 0), (15, 2)]
theorem skM : AllP (fun k : Nat => ∀ (n : Int) (N : St → Option D) (E : Nat → St → Option D) (R : St → Option D), exec Tryz.prog G0 tab1 ann177 (fun _ => none) 50 c177 (Sf cellsM 10 k n) (splitK keep177 N E R) = if decide (n < fstF tabM k) = false then (if decide (sndF tabM k < IntKind.i64.wrap (n - fstF tabM k)) = true then N (Sf cellsM 10 (k + 1) n) else none) else N (Sf cellsM 10 (k + 1) n)) [0, 1, 2, 3, 4, 5, 6, 7, 8, 9] := by
 refine AllP.cons ?_ (AllP.cons ?_ (AllP.cons ?_ (AllP.cons ?_ (AllP.cons ?_ (AllP.cons ?_ (AllP.cons ?_ (AllP.cons ?_ (AllP.cons ?_ (AllP.cons ?_ (AllP.nil)))))))))) <;> (intro n N E R; kernel_rfl)
theorem endM (n : Int) (N : St → Option D) (E : Nat → St → Option D) (R : St → Option D) : exec Tryz.prog G0 tab1 ann177 (fun _ => none) 50 c177 (Sf cellsM 10 10 n) (splitK keep177 N E R) = E 0 (Ef cellsM 10 n) := by kernel_rfl
noncomputable def FM : LoopF := searchF Tryz.prog G0 tab2 ann177 (fun _ => none) 50 c177 keep177 (Sf cellsM 10) (fun _ => 10) (outF tabM) 0 (Ef cellsM 10)
theorem semM : SemOK Tryz.prog G0 c177 FM := by
 refine SemOK.search mixed 50 ok_tab1 ok_tab2 LsOK.none LsOK.none (ann1 := ann177) (ls1 := fun _ => none) (fun k n hk ho N E R => ?_) (fun n N E R => endM n N E R)
 have hk' : k < 10 := hk
 have hm := skM.mem (a := k) (by simp only [List.mem_cons, List.not_mem_nil, or_false]; omega)
 exact (hm n N E R).trans (skip_pick ho)
theorem lsM : LsOK Tryz.prog G0 (lsOf [(2, FM)]) (Tryz.f177.body.getD .skip) := LsOK.of (by rw [show (loops (Tryz.f177.body.getD .skip)).map firstId = [2, 8] by kernel_rfl]; decide) (fun x hx => by
 simp only [List.mem_cons, List.not_mem_nil, or_false] at hx
 subst hx
 exact semM)
noncomputable def XM : Ev.Spec := execFnL Tryz.prog G0 (tabOf []) ann177 (lsOf [(2, FM)]) Tryz.f177 50
theorem t_XM : Snd 177 XM := execFnL_sound TableOK.nil mixed Tryz.func177 (by kernel_rfl) 50 fun c hc => by
 have e : c = Tryz.f177.body.getD .skip := by rw [hc]; rfl
 rw [e]; exact lsM
theorem startM (F : LoopF) (n : Int) : execFnL Tryz.prog G0 (tabOf []) ann177 (lsOf [(2, F)]) Tryz.f177 50 [miscD, .i .i64 n] some = F (Tf cellsM 10 n) (KFf miscD n) := by kernel_rfl
theorem canM (n : Int) : canon keep177 (Tf cellsM 10 n) = Sf cellsM 10 0 n := by kernel_rfl
theorem finM (n : Int) : KFf miscD n (.exit 0) (Ef cellsM 10 n) = some zfind := by kernel_rfl
def insM : List Ins := [⟨64512, [105, 51, 50, 46, 116, 114, 117, 110, 99, 95, 115, 97, 116, 95, 102, 51, 50, 95, 115], [102, 58, 105], 0, 0, true⟩,
 ⟨64513, [105, 51, 50, 46, 116, 114, 117, 110, 99, 95, 115, 97, 116, 95, 102, 51, 50, 95, 117], [102, 58, 105], 0, 0, true⟩,
 ⟨64514, [105, 51, 50, 46, 116, 114, 117, 110, 99, 95, 115, 97, 116, 95, 102, 54, 52, 95, 115], [100, 58, 105], 0, 0, true⟩,
 ⟨64515, [105, 51, 50, 46, 116, 114, 117, 110, 99, 95, 115, 97, 116, 95, 102, 54, 52, 95, 117], [100, 58, 105], 0, 0, true⟩,
 ⟨64516, [105, 54, 52, 46, 116, 114, 117, 110, 99, 95, 115, 97, 116, 95, 102, 51, 50, 95, 115], [102, 58, 108], 0, 0, true⟩,
 ⟨64517, [105, 54, 52, 46, 116, 114, 117, 110, 99, 95, 115, 97, 116, 95, 102, 51, 50, 95, 117], [102, 58, 108], 0, 0, true⟩,
 ⟨64518, [105, 54, 52, 46, 116, 114, 117, 110, 99, 95, 115, 97, 116, 95, 102, 54, 52, 95, 115], [100, 58, 108], 0, 0, true⟩,
 ⟨64519, [105, 54, 52, 46, 116, 114, 117, 110, 99, 95, 115, 97, 116, 95, 102, 54, 52, 95, 117], [100, 58, 108], 0, 0, true⟩,
 ⟨64520, [109, 101, 109, 111, 114, 121, 46, 105, 110, 105, 116], [105, 105, 105, 58], 13, 0, false⟩,
 ⟨64521, [100, 97, 116, 97, 46, 100, 114, 111, 112], [58], 12, 0, false⟩,
 ⟨64522, [109, 101, 109, 111, 114, 121, 46, 99, 111, 112, 121], [105, 105, 105, 58], 15, 0, false⟩,
 ⟨64523, [109, 101, 109, 111, 114, 121, 46, 102, 105, 108, 108], [105, 105, 105, 58], 14, 0, false⟩,
 ⟨64524, [116, 97, 98, 108, 101, 46, 105, 110, 105, 116], [58], 9, 0, false⟩,
 ⟨64525, [101, 108, 101, 109, 46, 100, 114, 111, 112], [58], 10, 0, false⟩,
 ⟨64526, [116, 97, 98, 108, 101, 46, 99, 111, 112, 121], [58], 11, 0, false⟩,
 ⟨64527, [116, 97, 98, 108, 101, 46, 103, 114, 111, 119], [58], 8, 0, false⟩,
 ⟨64528, [116, 97, 98, 108, 101, 46, 115, 105, 122, 101], [58], 8, 0, false⟩,
 ⟨64529, [116, 97, 98, 108, 101, 46, 102, 105, 108, 108], [58], 8, 0, false⟩]
theorem foM : AllP (fun i : Ins => exec Tryz.prog G0 tab2 ann177 (fun _ => none) 50 c177 (Sf cellsM 10 ((whereF 10 tabM ((i.op - 64512 : Nat) : Int)).getD 0) ((i.op - 64512 : Nat) : Int)) (fun e st' => match e with | .ret => KFf miscD ((i.op - 64512 : Nat) : Int) .ret st' | _ => none) = some (rowD i)) insM := by
 refine AllP.cons ?_ (AllP.cons ?_ (AllP.cons ?_ (AllP.cons ?_ (AllP.cons ?_ (AllP.cons ?_ (AllP.cons ?_ (AllP.cons ?_ (AllP.cons ?_ (AllP.cons ?_ (AllP.cons ?_ (AllP.cons ?_ (AllP.cons ?_ (AllP.cons ?_ (AllP.cons ?_ (AllP.cons ?_ (AllP.cons ?_ (AllP.cons ?_ (AllP.nil)))))))))))))))))) <;> (as_aux_lemma => kernel_rfl)
theorem atM (n : Int) (d : D) (h : resF 10 tabM 64512 insM n = some d) : XM [miscD, .i .i64 n] some = some d := by
 unfold XM
 rw [startM]
 unfold FM
 rw [searchF_at (fun a b e => Sf_inj e) (canM n)]
 unfold resF whereF at h
 split at h
 ·rename_i hn
  cases h
  rw [hn]
  exact finM n
 ·rename_i j hj
  rw [hj]
  split at h
  ·rename_i h0
   simp only [Option.map_eq_some_iff] at h
   obtain ⟨i, hi, rfl⟩ := h
   obtain ⟨hm, ho⟩ := lookO_mem hi
   have h2 := foM.mem hm
   have e : ((i.op - 64512 : Nat) : Int) = n := by
    have := of_decide_eq_true h0
    omega
   simp only [e, whereF, hj, Option.getD_some] at h2
   exact h2
  ·cases h
end Go.L23
set_option maxRecDepth 100000
set_option maxHeartbeats 0
namespace Go.L23
open Go.Ev Go.Proofs Go.RowKit Go.Wh
def cellsO : List SV := cellsOf oddD
def tabO : List (Int × Int) := [(98, 0), (103, 3), (116, 1), (122, 0), (124, 1), (126, 1), (130, 0), (148, 0), (186, 0), (214, 5), (224, 1), (227, 0), (228, 7), (236, 1), (239, 0), (240, 7), (248, 1), (250, 1), (252, 1), (254, 1)]
theorem skO : AllP (fun k : Nat => ∀ (n : Int) (N : St → Option D) (E : Nat → St → Option D) (R : St → Option D), exec Tryz.prog G0 tab1 ann177 (fun _ => none) 50 c177 (Sf cellsO 20 k n) (splitK keep177 N E R) = if decide (n < fstF tabO k) = false then (if decide (sndF tabO k < IntKind.i64.wrap (n - fstF tabO k)) = true then N (Sf cellsO 20 (k + 1) n) else none) else N (Sf cellsO 20 (k + 1) n)) [0, 1, 2, 3, 4, 5, 6, 7, 8, 9, 10, 11, 12, 13, 14, 15, 16, 17, 18, 19] := by
 refine AllP.cons ?_ (AllP.cons ?_ (AllP.cons ?_ (AllP.cons ?_ (AllP.cons ?_ (AllP.cons ?_ (AllP.cons ?_ (AllP.cons ?_ (AllP.cons ?_ (AllP.cons ?_ (AllP.cons ?_ (AllP.cons ?_ (AllP.cons ?_ (AllP.cons ?_ (AllP.cons ?_ (AllP.cons ?_ (AllP.cons ?_ (AllP.cons ?_ (AllP.cons ?_ (AllP.cons ?_ (AllP.nil)))))))))))))))))))) <;> (intro n N E R; kernel_rfl)
theorem endO (n : Int) (N : St → Option D) (E : Nat → St → Option D) (R : St → Option D) : exec Tryz.prog G0 tab1 ann177 (fun _ => none) 50 c177 (Sf cellsO 20 20 n) (splitK keep177 N E R) = E 0 (Ef cellsO 20 n) := by kernel_rfl
noncomputable def FO : LoopF := searchF Tryz.prog G0 tab2 ann177 (fun _ => none) 50 c177 keep177 (Sf cellsO 20) (fun _ => 20) (outF tabO) 0 (Ef cellsO 20)
theorem semO : SemOK Tryz.prog G0 c177 FO := by
 refine SemOK.search mixed 50 ok_tab1 ok_tab2 LsOK.none LsOK.none (ann1 := ann177) (ls1 := fun _ => none) (fun k n hk ho N E R => ?_) (fun n N E R => endO n N E R)
 have hk' : k < 20 := hk
 have hm := skO.mem (a := k) (by simp only [List.mem_cons, List.not_mem_nil, or_false]; omega)
 exact (hm n N E R).trans (skip_pick ho)
theorem lsO : LsOK Tryz.prog G0 (lsOf [(2, FO)]) (Tryz.f177.body.getD .skip) := LsOK.of (by rw [show (loops (Tryz.f177.body.getD .skip)).map firstId = [2, 8] by kernel_rfl]; decide) (fun x hx => by
 simp only [List.mem_cons, List.not_mem_nil, or_false] at hx
 subst hx
 exact semO)
noncomputable def XO : Ev.Spec := execFnL Tryz.prog G0 (tabOf []) ann177 (lsOf [(2, FO)]) Tryz.f177 50
theorem t_XO : Snd 177 XO := execFnL_sound TableOK.nil mixed Tryz.func177 (by kernel_rfl) 50 fun c hc => by
 have e : c = Tryz.f177.body.getD .skip := by rw [hc]; rfl
 rw [e]; exact lsO
theorem startO (F : LoopF) (n : Int) : execFnL Tryz.prog G0 (tabOf []) ann177 (lsOf [(2, F)]) Tryz.f177 50 [oddD, .i .i64 n] some = F (Tf cellsO 20 n) (KFf oddD n) := by kernel_rfl
theorem canO (n : Int) : canon keep177 (Tf cellsO 20 n) = Sf cellsO 20 0 n := by kernel_rfl
theorem finO (n : Int) : KFf oddD n (.exit 0) (Ef cellsO 20 n) = some zfind := by kernel_rfl
def insO : List Ins := [⟨64866, [105, 56, 120, 49, 54, 46, 112, 111, 112, 99, 110, 116], [118, 58, 118], 0, 0, true⟩,
 ⟨64871, [102, 51, 50, 120, 52, 46, 99, 101, 105, 108], [118, 58, 118], 0, 0, true⟩,
 ⟨64872, [102, 51, 50, 120, 52, 46, 102, 108, 111, 111, 114], [118, 58, 118], 0, 0, true⟩,
 ⟨64873, [102, 51, 50, 120, 52, 46, 116, 114, 117, 110, 99], [118, 58, 118], 0, 0, true⟩,
 ⟨64874, [102, 51, 50, 120, 52, 46, 110, 101, 97, 114, 101, 115, 116], [118, 58, 118], 0, 0, true⟩,
 ⟨64884, [102, 54, 52, 120, 50, 46, 99, 101, 105, 108], [118, 58, 118], 0, 0, true⟩,
 ⟨64885, [102, 54, 52, 120, 50, 46, 102, 108, 111, 111, 114], [118, 58, 118], 0, 0, true⟩,
 ⟨64890, [102, 54, 52, 120, 50, 46, 116, 114, 117, 110, 99], [118, 58, 118], 0, 0, true⟩,
 ⟨64892, [105, 49, 54, 120, 56, 46, 101, 120, 116, 97, 100, 100, 95, 112, 97, 105, 114, 119, 105, 115, 101, 95, 105, 56, 120, 49, 54, 95, 115], [118, 58, 118], 0, 0, true⟩,
 ⟨64893, [105, 49, 54, 120, 56, 46, 101, 120, 116, 97, 100, 100, 95, 112, 97, 105, 114, 119, 105, 115, 101, 95, 105, 56, 120, 49, 54, 95, 117], [118, 58, 118], 0, 0, true⟩,
 ⟨64894, [105, 51, 50, 120, 52, 46, 101, 120, 116, 97, 100, 100, 95, 112, 97, 105, 114, 119, 105, 115, 101, 95, 105, 49, 54, 120, 56, 95, 115], [118, 58, 118], 0, 0, true⟩,
 ⟨64895, [105, 51, 50, 120, 52, 46, 101, 120, 116, 97, 100, 100, 95, 112, 97, 105, 114, 119, 105, 115, 101, 95, 105, 49, 54, 120, 56, 95, 117], [118, 58, 118], 0, 0, true⟩,
 ⟨64898, [105, 49, 54, 120, 56, 46, 113, 49, 53, 109, 117, 108, 114, 95, 115, 97, 116, 95, 115], [118, 118, 58, 118], 0, 0, true⟩,
 ⟨64916, [102, 54, 52, 120, 50, 46, 110, 101, 97, 114, 101, 115, 116], [118, 58, 118], 0, 0, true⟩,
 ⟨64954, [105, 51, 50, 120, 52, 46, 100, 111, 116, 95, 105, 49, 54, 120, 56, 95, 115], [118, 118, 58, 118], 0, 0, true⟩,
 ⟨64982, [105, 54, 52, 120, 50, 46, 101, 113], [118, 118, 58, 118], 0, 0, true⟩,
 ⟨64983, [105, 54, 52, 120, 50, 46, 110, 101], [118, 118, 58, 118], 0, 0, true⟩,
 ⟨64984, [105, 54, 52, 120, 50, 46, 108, 116, 95, 115], [118, 118, 58, 118], 0, 0, true⟩,
 ⟨64985, [105, 54, 52, 120, 50, 46, 103, 116, 95, 115], [118, 118, 58, 118], 0, 0, true⟩,
 ⟨64986, [105, 54, 52, 120, 50, 46, 108, 101, 95, 115], [118, 118, 58, 118], 0, 0, true⟩,
 ⟨64987, [105, 54, 52, 120, 50, 46, 103, 101, 95, 115], [118, 118, 58, 118], 0, 0, true⟩,
 ⟨64992, [102, 51, 50, 120, 52, 46, 97, 98, 115], [118, 58, 118], 0, 0, true⟩,
 ⟨64993, [102, 51, 50, 120, 52, 46, 110, 101, 103], [118, 58, 118], 0, 0, true⟩,
 ⟨64995, [102, 51, 50, 120, 52, 46, 115, 113, 114, 116], [118, 58, 118], 0, 0, true⟩,
 ⟨64996, [102, 51, 50, 120, 52, 46, 97, 100, 100], [118, 118, 58, 118], 0, 0, true⟩,
 ⟨64997, [102, 51, 50, 120, 52, 46, 115, 117, 98], [118, 118, 58, 118], 0, 0, true⟩,
 ⟨64998, [102, 51, 50, 120, 52, 46, 109, 117, 108], [118, 118, 58, 118], 0, 0, true⟩,
 ⟨64999, [102, 51, 50, 120, 52, 46, 100, 105, 118], [118, 118, 58, 118], 0, 0, true⟩,
 ⟨65000, [102, 51, 50, 120, 52, 46, 109, 105, 110], [118, 118, 58, 118], 0, 0, true⟩,
 ⟨65001, [102, 51, 50, 120, 52, 46, 109, 97, 120], [118, 118, 58, 118], 0, 0, true⟩,
 ⟨65002, [102, 51, 50, 120, 52, 46, 112, 109, 105, 110], [118, 118, 58, 118], 0, 0, true⟩,
 ⟨65003, [102, 51, 50, 120, 52, 46, 112, 109, 97, 120], [118, 118, 58, 118], 0, 0, true⟩,
 ⟨65004, [102, 54, 52, 120, 50, 46, 97, 98, 115], [118, 58, 118], 0, 0, true⟩,
 ⟨65005, [102, 54, 52, 120, 50, 46, 110, 101, 103], [118, 58, 118], 0, 0, true⟩,
 ⟨65007, [102, 54, 52, 120, 50, 46, 115, 113, 114, 116], [118, 58, 118], 0, 0, true⟩,
 ⟨65008, [102, 54, 52, 120, 50, 46, 97, 100, 100], [118, 118, 58, 118], 0, 0, true⟩,
 ⟨65009, [102, 54, 52, 120, 50, 46, 115, 117, 98], [118, 118, 58, 118], 0, 0, true⟩,
 ⟨65010, [102, 54, 52, 120, 50, 46, 109, 117, 108], [118, 118, 58, 118], 0, 0, true⟩,
 ⟨65011, [102, 54, 52, 120, 50, 46, 100, 105, 118], [118, 118, 58, 118], 0, 0, true⟩,
 ⟨65012, [102, 54, 52, 120, 50, 46, 109, 105, 110], [118, 118, 58, 118], 0, 0, true⟩,
 ⟨65013, [102, 54, 52, 120, 50, 46, 109, 97, 120], [118, 118, 58, 118], 0, 0, true⟩,
 ⟨65014, [102, 54, 52, 120, 50, 46, 112, 109, 105, 110], [118, 118, 58, 118], 0, 0, true⟩,
 ⟨65015, [102, 54, 52, 120, 50, 46, 112, 109, 97, 120], [118, 118, 58, 118], 0, 0, true⟩,
 ⟨65016, [105, 51, 50, 120, 52, 46, 116, 114, 117, 110, 99, 95, 115, 97, 116, 95, 102, 51, 50, 120, 52, 95, 115], [118, 58, 118], 0, 0, true⟩,
 ⟨65017, [105, 51, 50, 120, 52, 46, 116, 114, 117, 110, 99, 95, 115, 97, 116, 95, 102, 51, 50, 120, 52, 95, 117], [118, 58, 118], 0, 0, true⟩,
 ⟨65018, [102, 51, 50, 120, 52, 46, 99, 111, 110, 118, 101, 114, 116, 95, 105, 51, 50, 120, 52, 95, 115], [118, 58, 118], 0, 0, true⟩,
 ⟨65019, [102, 51, 50, 120, 52, 46, 99, 111, 110, 118, 101, 114, 116, 95, 105, 51, 50, 120, 52, 95, 117], [118, 58, 118], 0, 0, true⟩,
 ⟨65020, [105, 51, 50, 120, 52, 46, 116, 114, 117, 110, 99, 95, 115, 97, 116, 95, 102, 54, 52, 120, 50, 95, 115, 95, 122, 101, 114, 111], [118, 58, 118], 0, 0, true⟩,
 ⟨65021, [105, 51, 50, 120, 52, 46, 116, 114, 117, 110, 99, 95, 115, 97, 116, 95, 102, 54, 52, 120, 50, 95, 117, 95, 122, 101, 114, 111], [118, 58, 118], 0, 0, true⟩,
 ⟨65022, [102, 54, 52, 120, 50, 46, 99, 111, 110, 118, 101, 114, 116, 95, 108, 111, 119, 95, 105, 51, 50, 120, 52, 95, 115], [118, 58, 118], 0, 0, true⟩,
 ⟨65023, [102, 54, 52, 120, 50, 46, 99, 111, 110, 118, 101, 114, 116, 95, 108, 111, 119, 95, 105, 51, 50, 120, 52, 95, 117], [118, 58, 118], 0, 0, true⟩]
theorem foO : AllP (fun i : Ins => exec Tryz.prog G0 tab2 ann177 (fun _ => none) 50 c177 (Sf cellsO 20 ((whereF 20 tabO ((i.op - 64768 : Nat) : Int)).getD 0) ((i.op - 64768 : Nat) : Int)) (fun e st' => match e with | .ret => KFf oddD ((i.op - 64768 : Nat) : Int) .ret st' | _ => none) = some (rowD i)) insO := by
 refine AllP.cons ?_ (AllP.cons ?_ (AllP.cons ?_ (AllP.cons ?_ (AllP.cons ?_ (AllP.cons ?_ (AllP.cons ?_ (AllP.cons ?_ (AllP.cons ?_ (AllP.cons ?_ (AllP.cons ?_ (AllP.cons ?_ (AllP.cons ?_ (AllP.cons ?_ (AllP.cons ?_ (AllP.cons ?_ (AllP.cons ?_ (AllP.cons ?_ (AllP.cons ?_ (AllP.cons ?_ (AllP.cons ?_ (AllP.cons ?_ (AllP.cons ?_ (AllP.cons ?_ (AllP.cons ?_ (AllP.cons ?_ (AllP.cons ?_ (AllP.cons ?_ (AllP.cons ?_ (AllP.cons ?_ (AllP.cons ?_ (AllP.cons ?_ (AllP.cons ?_ (AllP.cons ?_ (AllP.cons ?_ (AllP.cons ?_ (AllP.cons ?_ (AllP.cons ?_ (AllP.cons ?_ (AllP.cons ?_ (AllP.cons ?_ (AllP.cons ?_ (AllP.cons ?_ (AllP.cons ?_ (AllP.cons ?_ (AllP.cons ?_ (AllP.cons ?_ (AllP.cons ?_ (AllP.cons ?_ (AllP.cons ?_ (AllP.cons ?_ (AllP.nil))))))))))))))))))))))))))))))))))))))))))))))))))) <;> (as_aux_lemma => kernel_rfl)
theorem atO (n : Int) (d : D) (h : resF 20 tabO 64768 insO n = some d) : XO [oddD, .i .i64 n] some = some d := by
 unfold XO
 rw [startO]
 unfold FO
 rw [searchF_at (fun a b e => Sf_inj e) (canO n)]
 unfold resF whereF at h
 split at h
 ·rename_i hn
  cases h
  rw [hn]
  exact finO n
 ·rename_i j hj
  rw [hj]
  split at h
  ·rename_i h0
   simp only [Option.map_eq_some_iff] at h
   obtain ⟨i, hi, rfl⟩ := h
   obtain ⟨hm, ho⟩ := lookO_mem hi
   have h2 := foO.mem hm
   have e : ((i.op - 64768 : Nat) : Int) = n := by
    have := of_decide_eq_true h0
    omega
   simp only [e, whereF, hj, Option.getD_some] at h2
   exact h2
  ·cases h
end Go.L23

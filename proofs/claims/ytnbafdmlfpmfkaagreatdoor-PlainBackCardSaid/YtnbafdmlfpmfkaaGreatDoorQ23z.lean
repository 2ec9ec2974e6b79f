/-
  Part of the proof; what its functions and lemmas say stands in the text.
-/
import Derived.Test.YtnbafdmlfpmfkaaGreatDoorQ23oA
import Derived.Test.YtnbafdmlfpmfkaaGreatDoorQ23oB
import Derived.Test.YtnbafdmlfpmfkaaGreatDoorQ23oC
import Derived.Test.YtnbafdmlfpmfkaaGreatDoorQ23oD
import Derived.Test.YtnbafdmlfpmfkaaGreatDoorQ23oE
import Derived.Test.YtnbafdmlfpmfkaaGreatDoorQ23yA
import Derived.Test.YtnbafdmlfpmfkaaGreatDoorQ23yN
import Derived.Test.YtnbafdmlfpmfkaaGreatDoorQ23yV
import Derived.Test.YtnbafdmlfpmfkaaGreatDoorQ23yO
import Derived.Test.YtnbafdmlfpmfkaaGreatDoorQ23yS
import Derived.Test.YtnbafdmlfpmfkaaGreatDoorQ23gp
set_option linter.unusedSimpArgs false
set_option linter.unusedVariables false
/-!
Layer 23: what is known of an instruction, in full.
-/
set_option maxRecDepth 100000
set_option maxHeartbeats 0
namespace Go.L23
open Go.Ev Go.Proofs Go.RowKit Go.Wh

noncomputable def ofS : Ev.Spec := joined fun | [.u16 o] => some (infF o.toNat) | _ => none
/-- The numbers at which the table was asked. -/
def askL (s : Nat) : List Nat := List.range' s 96
theorem ask_mem {s n : Nat} (h1 : s ≤ n) (h2 : n < s + 96) : n ∈ askL s := by
  unfold askL
  rw [List.mem_range'_1]
  exact ⟨h1, h2⟩
theorem off_0 {n : Nat} (h1 : 0 ≤ n) (h2 : n < 96) : Xof [.u16 (BitVec.ofNat 16 n)] some = some (infF n) := AllP.mem (P := fun n : Nat => Xof [.u16 (BitVec.ofNat 16 n)] some = some (infF n)) (l := askL 0) of_0 (ask_mem h1 h2)
theorem off_1 {n : Nat} (h1 : 96 ≤ n) (h2 : n < 192) : Xof [.u16 (BitVec.ofNat 16 n)] some = some (infF n) := AllP.mem (P := fun n : Nat => Xof [.u16 (BitVec.ofNat 16 n)] some = some (infF n)) (l := askL 96) of_1 (ask_mem h1 h2)
theorem off_2 {n : Nat} (h : 192 ≤ n ∧ n < 256 ∨ 64512 ≤ n ∧ n < 64544) : Xof [.u16 (BitVec.ofNat 16 n)] some = some (infF n) := by
  refine AllP.mem (P := fun n : Nat => Xof [.u16 (BitVec.ofNat 16 n)] some = some (infF n)) (l := List.range' 192 64 ++ List.range' 64512 32) of_2 ?_
  rw [List.mem_append, List.mem_range'_1, List.mem_range'_1]
  omega
theorem off_3 {n : Nat} (h1 : 64544 ≤ n) (h2 : n < 64640) : Xof [.u16 (BitVec.ofNat 16 n)] some = some (infF n) := AllP.mem (P := fun n : Nat => Xof [.u16 (BitVec.ofNat 16 n)] some = some (infF n)) (l := askL 64544) of_3 (ask_mem h1 h2)
theorem off_4 {n : Nat} (h1 : 64640 ≤ n) (h2 : n < 64736) : Xof [.u16 (BitVec.ofNat 16 n)] some = some (infF n) := AllP.mem (P := fun n : Nat => Xof [.u16 (BitVec.ofNat 16 n)] some = some (infF n)) (l := askL 64640) of_4 (ask_mem h1 h2)
theorem off_5 {n : Nat} (h1 : 64736 ≤ n) (h2 : n < 64832) : Xof [.u16 (BitVec.ofNat 16 n)] some = some (infF n) := AllP.mem (P := fun n : Nat => Xof [.u16 (BitVec.ofNat 16 n)] some = some (infF n)) (l := askL 64736) of_5 (ask_mem h1 h2)
theorem off_6 {n : Nat} (h1 : 64832 ≤ n) (h2 : n < 64928) : Xof [.u16 (BitVec.ofNat 16 n)] some = some (infF n) := AllP.mem (P := fun n : Nat => Xof [.u16 (BitVec.ofNat 16 n)] some = some (infF n)) (l := askL 64832) of_6 (ask_mem h1 h2)
theorem off_7 {n : Nat} (h1 : 64928 ≤ n) (h2 : n < 65024) : Xof [.u16 (BitVec.ofNat 16 n)] some = some (infF n) := AllP.mem (P := fun n : Nat => Xof [.u16 (BitVec.ofNat 16 n)] some = some (infF n)) (l := askL 64928) of_7 (ask_mem h1 h2)
theorem lookO_none : ∀ {l : List Ins} {n : Nat}, (∀ i ∈ l, i.op ≠ n) → lookO l n = none
  | [], _, _ => rfl
  | i :: l, n, h => by
    have h0 : (n == i.op) = false := by
      have := h i List.mem_cons_self
      simpa using fun e : n = i.op => this e.symm
    simp only [lookO, h0, Bool.false_eq_true, if_false]
    exact lookO_none fun j hj => h j (List.mem_cons_of_mem _ hj)
theorem lookO_some : ∀ {l : List Ins} {n : Nat}, lookO l n = none → ∀ i ∈ l, i.op ≠ n
  | i :: l, n, h, j, hj => by
    simp only [lookO] at h
    split at h
    · cases h
    · rename_i h0
      rcases List.mem_cons.1 hj with rfl | hj
      · exact fun e => h0 (by simp [e])
      · exact lookO_some h j hj
/-- Every number of the table. -/
def inPage (n : Nat) : Bool := decide (n < 256) || (decide (64512 ≤ n) && decide (n < 65024))
theorem pages : insAll.all (fun i => inPage i.op) = true := by kernel_rfl
theorem infF_gap {n : Nat} (h : inPage n = false) : infF n = .tup [noInfo, .i .i64 11] := by
  unfold infF
  rw [lookO_none fun i hi e => by
    have := List.all_eq_true.1 pages i hi
    rw [e, h] at this
    cases this]
noncomputable def gapS : Ev.Spec := guarded fun | [.u16 o] => some (!inPage o.toNat, zfind) | _ => none
theorem sOfU16 (o : BitVec 16) : sOfU .i64 o = (o.toNat : Int) := by
  unfold sOfU
  rw [if_pos (by decide)]
theorem t_gap : Snd 69 gapS := by
  refine Sound.guard (execFn_sound (ann := fun _ => []) TableOK.nil mixed Tryz.func69 (by kernel_rfl) 50) fun ds d h => ?_
  split at h
  · rename_i o
    simp only [Option.some.injEq, Prod.mk.injEq] at h
    obtain ⟨h, rfl⟩ := h
    simp only [inPage, Bool.not_eq_true', Bool.or_eq_false_iff, Bool.and_eq_false_iff, decide_eq_false_iff_not] at h
    exact gap_run o (by rw [sOfU16]; omega) (by rw [sOfU16]; omega)
  · cases h
theorem of_gap (o : BitVec 16) : ex [(69, gapS)] (fun _ => []) Tryz.f18 [.u16 o] some = if (!inPage o.toNat) = true then some (.tup [noInfo, .i .i64 11]) else none := by kernel_rfl
theorem t_of : Snd 18 ofS := by
  refine Sound.of_pt fun ds d h => ?_
  split at h
  · rename_i o
    cases h
    cases hp : inPage o.toNat
    · rw [infF_gap hp]
      refine (execFn_sound (ann := fun _ => []) (TableOK.cons t_gap TableOK.nil) mixed Tryz.func18 (by kernel_rfl) 50).pt ((of_gap o).trans ?_)
      rw [hp]; rfl
    · refine t_Xof.pt ?_
      have e : BitVec.ofNat 16 o.toNat = o := BitVec.ofNat_toNat 16 o ▸ by simp
      simp only [inPage, Bool.or_eq_true, Bool.and_eq_true, decide_eq_true_eq] at hp
      have key : Xof [.u16 (BitVec.ofNat 16 o.toNat)] some = some (infF o.toNat) := by
        have hc : (0 ≤ o.toNat ∧ o.toNat < 96) ∨ (96 ≤ o.toNat ∧ o.toNat < 192) ∨ ((192 ≤ o.toNat ∧ o.toNat < 256 ∨ 64512 ≤ o.toNat ∧ o.toNat < 64544)) ∨ (64544 ≤ o.toNat ∧ o.toNat < 64640) ∨ (64640 ≤ o.toNat ∧ o.toNat < 64736) ∨ (64736 ≤ o.toNat ∧ o.toNat < 64832) ∨ (64832 ≤ o.toNat ∧ o.toNat < 64928) ∨ (64928 ≤ o.toNat ∧ o.toNat < 65024) := by omega
        rcases hc with h | h | h | h | h | h | h | h
        · exact off_0 h.1 h.2
        · exact off_1 h.1 h.2
        · exact off_2 h
        · exact off_3 h.1 h.2
        · exact off_4 h.1 h.2
        · exact off_5 h.1 h.2
        · exact off_6 h.1 h.2
        · exact off_7 h.1 h.2
      rw [e] at key
      exact key
  · cases h

/-! the document's -/
theorem AtR_all : AllP (fun x : Ins => foundAt x = some (wkF x.op)) insAll := AllP.app (AllP.app (AllP.app (AllP.app (AllP.app reS reO) reV) reM) reN) reC
/-- What lies in a family is in the table. -/
theorem famIn : (List.range 7).all (fun i => (List.range (lenG i)).all (fun k => (List.range ((famT.getD i []).getD k (0, 0)).2).all (fun m => (lookO insAll (((famT.getD i []).getD k (0, 0)).1 + m)).isSome && decide (((famT.getD i []).getD k (0, 0)).1 + 20 < 65536)))) = true := by kernel_rfl
theorem where3_some {o : BitVec 16} {i : Nat} (h : where3 o = some i) : (lookO insAll o.toNat).isSome = true := by
  have hi : i < 7 := List.mem_range.1 (List.mem_of_find?_eq_some h)
  have ho : out3 i o = false := by simpa using List.find?_some h
  unfold out3 at ho
  cases h6 : where6 i o with
  | none => rw [h6] at ho; cases ho
  | some k =>
    have hk : k < lenG i := List.mem_range.1 (List.mem_of_find?_eq_some h6)
    have hok : out6 i o k = false := by simpa using List.find?_some h6
    have f1 := List.all_eq_true.1 famIn i (List.mem_range.2 hi)
    have f2 := List.all_eq_true.1 f1 k (List.mem_range.2 hk)
    simp only [out6, firF, cntF] at hok
    simp only [Bool.or_eq_false_iff, Bool.not_eq_false', decide_eq_false_iff_not, decide_eq_true_eq] at hok
    have f3 : ∀ m, m < ((famT.getD i []).getD k (0, 0)).2 → (lookO insAll (((famT.getD i []).getD k (0, 0)).1 + m)).isSome = true ∧ ((famT.getD i []).getD k (0, 0)).1 + 20 < 65536 := fun m hm => by
      have := List.all_eq_true.1 f2 m (List.mem_range.2 hm)
      simp only [Bool.and_eq_true, decide_eq_true_eq] at this
      exact this
    clear f2
    generalize ((famT.getD i []).getD k (0, 0)).1 = f at hok f3
    generalize ((famT.getD i []).getD k (0, 0)).2 = c at hok f3
    obtain ⟨g1, g2, g3⟩ := hok
    have fpos : 0 < c ∨ c = 0 := by omega
    have hlt : o.toNat < 65536 := o.isLt
    rw [sOfU16] at g3
    have hc : 0 < c := by
      have : 0 ≤ ((o - BitVec.ofNat 16 f).toNat : Int) := by omega
      omega
    have f20 : f + 20 < 65536 := (f3 0 hc).2
    have e1 : (BitVec.ofNat 16 f).toNat = f := by simp only [BitVec.toNat_ofNat]; omega
    have g1' : f ≤ o.toNat := by
      have := BitVec.not_lt.1 g1
      have := BitVec.le_def.1 this
      omega
    have e2 : (o - BitVec.ofNat 16 f).toNat = o.toNat - f := by
      rw [BitVec.toNat_sub, e1]; omega
    rw [e2] at g3
    have g4 : o.toNat - f < c := by omega
    have this := f3 (o.toNat - f) g4
    have e3 : f + (o.toNat - f) = o.toNat := by omega
    rw [e3] at this
    exact this.1
/-- What lies in the table is in a family. -/
def famAt (n : Nat) : Option Nat := where3 (BitVec.ofNat 16 n)
theorem famAll : insAll.all (fun i => (famAt i.op).isSome) = true := by kernel_rfl
noncomputable def rofS : Ev.Spec := joined fun | [.u16 o] => some (wkF o.toNat) | _ => none
theorem t_rof : Snd 13 rofS := by
  refine Sound.of_pt fun ds d h => ?_
  split at h
  · rename_i o
    cases h
    refine t_Xro.pt ?_
    rw [atR]
    have e : BitVec.ofNat 16 o.toNat = o := BitVec.ofNat_toNat 16 o ▸ by simp
    cases hl : lookO insAll o.toNat with
    | none =>
      have hw : where3 o = none := by
        cases hw : where3 o with
        | none => rfl
        | some i => have := where3_some hw; rw [hl] at this; cases this
      rw [hw]
      unfold wkF
      rw [hl]
    | some i =>
      obtain ⟨hm, ho⟩ := lookO_mem hl
      have h2 := AtR_all.mem hm
      simp only [foundAt, ho, e] at h2
      cases hw : where3 o with
      | none =>
        exfalso
        have : (famAt i.op).isSome = true := List.all_eq_true.1 famAll i hm
        rw [famAt, ho, e, hw] at this
        cases this
      | some j =>
        rw [hw] at h2
        exact h2
  · cases h
end Go.L23

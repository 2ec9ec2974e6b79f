/-
  Part of the proof; what its functions and lemmas say stands in the text.
-/
import Derived.Test.YtnbafdmlfpmfkaaGreatDoorQ23L
set_option linter.unusedSimpArgs false
set_option linter.unusedVariables false
/-!
Layer 23: what is stored.
-/
set_option maxRecDepth 100000
set_option maxHeartbeats 0
namespace Go.L23
open Go.Ev Go.Proofs Go.RowKit Go.Wh

inductive SK
  | no | num (t : BitVec 8) (b : Int) (x : Bool) | all | lane (b : Int)
def SK.ok : SK → Bool
  | .num t _ _ => !(t == 123#8)
  | _ => true
def stoD (x y : BitVec 64) (n e : Int) : D := .tup [.agg [.u64 x, .u64 y], .i .i64 n, .i .i64 e]
abbrev S4 := BitVec 64 × BitVec 64 × Int × Int
def stoR (r : S4) : D := stoD r.1 r.2.1 r.2.2.1 r.2.2.2
abbrev noS : S4 := (0#64, 0#64, 0, 2)
def stR (k : SK) (t : BitVec 8) (b0 b1 : BitVec 64) (i : Int) : S4 := match k with
  | .no => noS
  | .num T b _ => if (t == T) = true then if hasF t b0 b1 = true then (b0 &&& maskF b, 0#64, b / 8, 0) else noS else noS
  | .all => if (t == 123#8) = true then if hasF t b0 b1 = true then (b0, b1, 16, 0) else noS else noS
  | .lane b => if (t == 123#8) = true then if hasF t b0 b1 = true then if okI b i = true then (getF b0 b1 b i, 0#64, b / 8, 0) else noS else noS else noS
def orNo (T t : BitVec 8) (b0 b1 : BitVec 64) (d : Option D) : Option D := if (!(t == T)) = false then if (!hasF t b0 b1) = true then some (stoD 0#64 0#64 0 2) else d else some (stoD 0#64 0#64 0 2)
def nfPS (k : SK) (t : BitVec 8) (b0 b1 : BitVec 64) (i : Int) : Option D := match k with
  | .no => some (stoD 0#64 0#64 0 2)
  | .num T b _ => orNo T t b0 b1 (some (stoD (b0 &&& maskF b) 0#64 (b / 8) 0))
  | .all => orNo 123#8 t b0 b1 (some (stoD b0 b1 16 0))
  | .lane b => orNo 123#8 t b0 b1 (if (!(errF (okI b i) == 0)) = true then some (stoD 0#64 0#64 0 (errF (okI b i))) else some (stoD (ifF (okI b i) (getF b0 b1 b i)) 0#64 (b / 8) 0))
def nfRS (k : SK) (t : BitVec 8) (b0 b1 : BitVec 64) (i : Int) : Option D := match k with
  | .no => some (stoD 0#64 0#64 0 2)
  | .num T b true => orNo T t b0 b1 (if (t == 123#8) = true then some (stoD b0 b1 16 0) else some (stoD (b0 &&& maskF b) 0#64 (b / 8) 0))
  | .num T b false => orNo T t b0 b1 (some (stoD (b0 &&& maskF b) 0#64 (b / 8) 0))
  | .all => orNo 123#8 t b0 b1 (if (t == 123#8) = true then some (stoD b0 b1 16 0) else some (stoD (b0 &&& maskF 128) 0#64 16 0))
  | .lane b => orNo 123#8 t b0 b1 (if (!(errF (okI b i) == 0)) = true then some (stoD 0#64 0#64 0 (errF (okI b i))) else some (stoD (ifF (okI b i) (getF b0 b1 b i)) 0#64 (b / 8) 0))
theorem nfPS_eq {k : SK} (h : k.ok = true) (t : BitVec 8) (b0 b1 : BitVec 64) (i : Int) : nfPS k t b0 b1 i = some (stoR (stR k t b0 b1 i)) := by
  cases k with
  | no => rfl
  | num T b x =>
    simp only [nfPS, stR, orNo]
    cases t == T <;> cases hasF t b0 b1 <;> rfl
  | all =>
    simp only [nfPS, stR, orNo]
    cases t == 123#8 <;> cases hasF t b0 b1 <;> rfl
  | lane b =>
    simp only [nfPS, stR, orNo]
    cases t == 123#8 <;> cases hasF t b0 b1 <;> cases okI b i <;> rfl
theorem nfRS_eq {k : SK} (h : k.ok = true) (t : BitVec 8) (b0 b1 : BitVec 64) (i : Int) : nfRS k t b0 b1 i = some (stoR (stR k t b0 b1 i)) := by
  cases k with
  | no => rfl
  | num T b x =>
    cases x
    · simp only [nfRS, stR, orNo]
      cases t == T <;> cases hasF t b0 b1 <;> rfl
    · simp only [nfRS, stR, orNo]
      by_cases ht : t = T
      · subst ht
        have h' : (t == 123#8) = false := by simpa [SK.ok] using h
        rw [h']
        cases t == t <;> cases hasF t b0 b1 <;> rfl
      · have h' : (t == T) = false := by simpa using ht
        rw [h']; rfl
  | all =>
    simp only [nfRS, stR, orNo]
    cases t == 123#8 <;> cases hasF t b0 b1 <;> rfl
  | lane b =>
    simp only [nfRS, stR, orNo]
    cases t == 123#8 <;> cases hasF t b0 b1 <;> cases okI b i <;> rfl
def stL : List (Nat × SK) := [(40, .no), (41, .no), (42, .no), (43, .no), (44, .no), (45, .no), (46, .no), (47, .no), (48, .no), (49, .no), (50, .no), (51, .no), (52, .no), (53, .no), (54, .num 127#8 32 true), (55, .num 126#8 64 true), (56, .num 125#8 32 true), (57, .num 124#8 64 true), (58, .num 127#8 8 false), (59, .num 127#8 16 false), (60, .num 126#8 8 false), (61, .num 126#8 16 false), (62, .num 126#8 32 false), (64768, .no), (64769, .no), (64770, .no), (64771, .no), (64772, .no), (64773, .no), (64774, .no), (64775, .no), (64776, .no), (64777, .no), (64778, .no), (64779, .all), (64852, .no), (64853, .no), (64854, .no), (64855, .no), (64856, .lane 8), (64857, .lane 16), (64858, .lane 32), (64859, .lane 64), (64860, .no), (64861, .no)]
theorem st_ok : stL.all (fun p => p.2.ok) = true := by kernel_rfl
theorem st_key : stL.map (fun p => p.1) = lsL := by kernel_rfl
/-- What kind of store a number is. -/
def stK (n : Nat) : SK := lookP .no stL n
noncomputable abbrev psT (s : Ev.Spec) : List (Nat × Ev.Spec) := [(18, s), (14, hasS), (22, X22), (27, X27), (47, GetS)]
theorem ok_psT {s : Ev.Spec} (h : Snd 18 s) : Tok (psT s) := TableOK.cons h (TableOK.cons t_Has (TableOK.cons t_X22 (TableOK.cons t_X27 (TableOK.cons Get13 TableOK.nil))))
noncomputable abbrev Xps (s : Ev.Spec) : Ev.Spec := ex (psT s) (fun _ => []) Tryz.f15
theorem t_Xps {s : Ev.Spec} (h : Snd 18 s) : Snd 15 (Xps s) := execFn_sound (ann := fun _ => []) (ok_psT h) mixed Tryz.func15 (by kernel_rfl) 50
noncomputable abbrev rsT (s : Ev.Spec) : List (Nat × Ev.Spec) := [(13, s), (72, hasS), (23, X23), (33, X33), (37, X37), (40, X40), (73, GetS)]
theorem ok_rsT {s : Ev.Spec} (h : Snd 13 s) : Tok (rsT s) := TableOK.cons h (TableOK.cons t_rHas (TableOK.cons t_X23 (TableOK.cons t_X33 (TableOK.cons t_X37 (TableOK.cons t_X40 (TableOK.cons Get14 TableOK.nil))))))
noncomputable abbrev Xrs (s : Ev.Spec) : Ev.Spec := ex (rsT s) (fun _ => []) Tryz.f26
theorem t_Xrs {s : Ev.Spec} (h : Snd 13 s) : Snd 26 (Xrs s) := execFn_sound (ann := fun _ => []) (ok_rsT h) mixed Tryz.func26 (by kernel_rfl) 50
theorem ps_at : AllP (fun p : Nat × SK => ∀ (t : BitVec 8) (b0 b1 : BitVec 64) (i : Int), Xps ofS [.u16 (BitVec.ofNat 16 p.1), .agg [.u8 t, .u64 b0, .u64 b1], .i .i64 i] some = nfPS p.2 t b0 b1 i) stL := by
  refine AllP.cons ?_ (AllP.cons ?_ (AllP.cons ?_ (AllP.cons ?_ (AllP.cons ?_ (AllP.cons ?_ (AllP.cons ?_ (AllP.cons ?_ (AllP.cons ?_ (AllP.cons ?_ (AllP.cons ?_ (AllP.cons ?_ (AllP.cons ?_ (AllP.cons ?_ (AllP.cons ?_ (AllP.cons ?_ (AllP.cons ?_ (AllP.cons ?_ (AllP.cons ?_ (AllP.cons ?_ (AllP.cons ?_ (AllP.cons ?_ (AllP.cons ?_ (AllP.cons ?_ (AllP.cons ?_ (AllP.cons ?_ (AllP.cons ?_ (AllP.cons ?_ (AllP.cons ?_ (AllP.cons ?_ (AllP.cons ?_ (AllP.cons ?_ (AllP.cons ?_ (AllP.cons ?_ (AllP.cons ?_ (AllP.cons ?_ (AllP.cons ?_ (AllP.cons ?_ (AllP.cons ?_ (AllP.cons ?_ (AllP.cons ?_ (AllP.cons ?_ (AllP.cons ?_ (AllP.cons ?_ (AllP.cons ?_ (AllP.nil))))))))))))))))))))))))))))))))))))))))))))) <;> (intro t b0 b1 i; as_aux_lemma => kernel_rfl)
theorem ps_nn (o a : BitVec 16) (s : ByteArray) (m : BitVec 8) (p : Bool) (u : BitVec 8) (b0 b1 : BitVec 64) (i : Int) : Xps (wk o (.tup [.agg [.u16 a, .c (.string s), .u8 m, .c (.slice none 0 0), .c (.slice none 0 0), .i .i64 0, .bool p], .i .i64 0])) [.u16 o, .agg [.u8 u, .u64 b0, .u64 b1], .i .i64 i] some = if (o == o) = true then some (stoD 0#64 0#64 0 2) else none := by kernel_rfl
theorem ps_ns (o a : BitVec 16) (s : ByteArray) (m : BitVec 8) (t : List (BitVec 8)) (p : Bool) (u : BitVec 8) (b0 b1 : BitVec 64) (i : Int) : Xps (wk o (.tup [.agg [.u16 a, .c (.string s), .u8 m, .c (.slice none 0 0), .sl8 t, .i .i64 0, .bool p], .i .i64 0])) [.u16 o, .agg [.u8 u, .u64 b0, .u64 b1], .i .i64 i] some = if (o == o) = true then some (stoD 0#64 0#64 0 2) else none := by kernel_rfl
theorem ps_sn (o a : BitVec 16) (s : ByteArray) (m : BitVec 8) (f : List (BitVec 8)) (p : Bool) (u : BitVec 8) (b0 b1 : BitVec 64) (i : Int) : Xps (wk o (.tup [.agg [.u16 a, .c (.string s), .u8 m, .sl8 f, .c (.slice none 0 0), .i .i64 0, .bool p], .i .i64 0])) [.u16 o, .agg [.u8 u, .u64 b0, .u64 b1], .i .i64 i] some = if (o == o) = true then some (stoD 0#64 0#64 0 2) else none := by kernel_rfl
theorem ps_ss (o a : BitVec 16) (s : ByteArray) (m : BitVec 8) (f : List (BitVec 8)) (t : List (BitVec 8)) (p : Bool) (u : BitVec 8) (b0 b1 : BitVec 64) (i : Int) : Xps (wk o (.tup [.agg [.u16 a, .c (.string s), .u8 m, .sl8 f, .sl8 t, .i .i64 0, .bool p], .i .i64 0])) [.u16 o, .agg [.u8 u, .u64 b0, .u64 b1], .i .i64 i] some = if (o == o) = true then some (stoD 0#64 0#64 0 2) else none := by kernel_rfl
theorem ps_er (o : BitVec 16) (u : BitVec 8) (b0 b1 : BitVec 64) (i : Int) : Xps (wk o (.tup [noInfo, .i .i64 11])) [.u16 o, .agg [.u8 u, .u64 b0, .u64 b1], .i .i64 i] some = if (o == o) = true then some (stoD 0#64 0#64 0 2) else none := by kernel_rfl
theorem rs_at : AllP (fun p : Nat × SK => ∀ (t : BitVec 8) (b0 b1 : BitVec 64) (i : Int), Xrs rofS [.u16 (BitVec.ofNat 16 p.1), .agg [.u8 t, .u64 b0, .u64 b1], .i .i64 i] some = nfRS p.2 t b0 b1 i) stL := by
  refine AllP.cons ?_ (AllP.cons ?_ (AllP.cons ?_ (AllP.cons ?_ (AllP.cons ?_ (AllP.cons ?_ (AllP.cons ?_ (AllP.cons ?_ (AllP.cons ?_ (AllP.cons ?_ (AllP.cons ?_ (AllP.cons ?_ (AllP.cons ?_ (AllP.cons ?_ (AllP.cons ?_ (AllP.cons ?_ (AllP.cons ?_ (AllP.cons ?_ (AllP.cons ?_ (AllP.cons ?_ (AllP.cons ?_ (AllP.cons ?_ (AllP.cons ?_ (AllP.cons ?_ (AllP.cons ?_ (AllP.cons ?_ (AllP.cons ?_ (AllP.cons ?_ (AllP.cons ?_ (AllP.cons ?_ (AllP.cons ?_ (AllP.cons ?_ (AllP.cons ?_ (AllP.cons ?_ (AllP.cons ?_ (AllP.cons ?_ (AllP.cons ?_ (AllP.cons ?_ (AllP.cons ?_ (AllP.cons ?_ (AllP.cons ?_ (AllP.cons ?_ (AllP.cons ?_ (AllP.cons ?_ (AllP.cons ?_ (AllP.nil))))))))))))))))))))))))))))))))))))))))))))) <;> (intro t b0 b1 i; as_aux_lemma => kernel_rfl)
theorem rs_nn (o a : BitVec 16) (s : ByteArray) (m : BitVec 8) (p : Bool) (u : BitVec 8) (b0 b1 : BitVec 64) (i : Int) : Xrs (wk o (.tup [.agg [.u16 a, .c (.string s), .u8 m, .c (.slice none 0 0), .c (.slice none 0 0), .i .i64 0, .bool p], .i .i64 0])) [.u16 o, .agg [.u8 u, .u64 b0, .u64 b1], .i .i64 i] some = if (o == o) = true then some (stoD 0#64 0#64 0 2) else none := by kernel_rfl
theorem rs_xs (o a : BitVec 16) (s : ByteArray) (m : BitVec 8) (t : List (BitVec 8)) (p : Bool) (u : BitVec 8) (b0 b1 : BitVec 64) (i : Int) : Xrs (wk o (.tup [.agg [.u16 a, .c (.string s), .u8 m, .xs, .sl8 t, .i .i64 0, .bool p], .i .i64 0])) [.u16 o, .agg [.u8 u, .u64 b0, .u64 b1], .i .i64 i] some = if (o == o) = true then some (stoD 0#64 0#64 0 2) else none := by kernel_rfl
theorem rs_sn (o a : BitVec 16) (s : ByteArray) (m : BitVec 8) (f : List (BitVec 8)) (p : Bool) (u : BitVec 8) (b0 b1 : BitVec 64) (i : Int) : Xrs (wk o (.tup [.agg [.u16 a, .c (.string s), .u8 m, .sl8 f, .c (.slice none 0 0), .i .i64 0, .bool p], .i .i64 0])) [.u16 o, .agg [.u8 u, .u64 b0, .u64 b1], .i .i64 i] some = if (o == o) = true then some (stoD 0#64 0#64 0 2) else none := by kernel_rfl
theorem rs_er (o : BitVec 16) (u : BitVec 8) (b0 b1 : BitVec 64) (i : Int) : Xrs (wk o (.tup [noInfo, .i .i64 11])) [.u16 o, .agg [.u8 u, .u64 b0, .u64 b1], .i .i64 i] some = if (o == o) = true then some (stoD 0#64 0#64 0 2) else none := by kernel_rfl
noncomputable def StoreG (r : Nat → BitVec 8 → BitVec 64 → BitVec 64 → Int → S4) : Ev.Spec := joined fun | [.u16 o, .agg [.u8 t, .u64 b0, .u64 b1], .i .i64 i] => some (stoR (r o.toNat t b0 b1 i)) | _ => none
noncomputable abbrev StoreS : Ev.Spec := StoreG fun n => stR (stK n)
theorem t_ps : Snd 15 StoreS := by
  refine Sound.of_pt fun ds d h => ?_
  split at h
  · rename_i o u b0 b1 i
    cases h
    show Pt Tryz.prog G0 15 _ (stoR (stR (stK o.toNat) u b0 b1 i))
    rcases of_cases o with ⟨n, hn, rfl⟩ | ⟨hc, d, hd, e, e'⟩ | ⟨hc, e, e'⟩
    · refine (t_Xps t_of).pt ?_
      have hk : (n, stK n) ∈ stL := lookP_in (by rw [st_key]; exact hn)
      rw [ls_nat hn]
      exact (ps_at.mem hk u b0 b1 i).trans (nfPS_eq (List.all_eq_true.1 st_ok _ hk) u b0 b1 i)
    · have hz : stK o.toNat = .no := key_no st_key hc
      rw [hz]
      refine (t_Xps (t_wk t_of e)).pt ?_
      cases hd with
      | nn a s m p => exact (ps_nn o a s m p u b0 b1 i).trans if_same
      | ns a s m t p => exact (ps_ns o a s m t p u b0 b1 i).trans if_same
      | sn a s m f p => exact (ps_sn o a s m f p u b0 b1 i).trans if_same
      | ss a s m f t p => exact (ps_ss o a s m f t p u b0 b1 i).trans if_same
    · have hz : stK o.toNat = .no := key_no st_key hc
      rw [hz]
      exact (t_Xps (t_wk t_of e)).pt ((ps_er o u b0 b1 i).trans if_same)
  · cases h
theorem t_rs : Snd 26 StoreS := by
  refine Sound.of_pt fun ds d h => ?_
  split at h
  · rename_i o u b0 b1 i
    cases h
    show Pt Tryz.prog G0 26 _ (stoR (stR (stK o.toNat) u b0 b1 i))
    rcases of_cases o with ⟨n, hn, rfl⟩ | ⟨hc, d, hd, e, e'⟩ | ⟨hc, e, e'⟩
    · refine (t_Xrs t_rof).pt ?_
      have hk : (n, stK n) ∈ stL := lookP_in (by rw [st_key]; exact hn)
      rw [ls_nat hn]
      exact (rs_at.mem hk u b0 b1 i).trans (nfRS_eq (List.all_eq_true.1 st_ok _ hk) u b0 b1 i)
    · have hz : stK o.toNat = .no := key_no st_key hc
      rw [hz]
      refine (t_Xrs (t_wkR t_rof e')).pt ?_
      cases hd with
      | nn a s m p => exact (rs_nn o a s m p u b0 b1 i).trans if_same
      | ns a s m t p => exact (rs_xs o a s m t p u b0 b1 i).trans if_same
      | sn a s m f p => exact (rs_sn o a s m f p u b0 b1 i).trans if_same
      | ss a s m f t p => exact (rs_xs o a s m t p u b0 b1 i).trans if_same
    · have hz : stK o.toNat = .no := key_no st_key hc
      rw [hz]
      exact (t_Xrs (t_wkR t_rof e')).pt ((rs_er o u b0 b1 i).trans if_same)
  · cases h
end Go.L23

/-
  PROVED HERE: the tied card of VintsBack, for every input: the lower and the higher half, widened, and then narrowed, are the vector. No conditions beyond the card's own.
-/
import Derived.Test.YtlicpmhlphhabaaDoorW07h
import Derived.SevenTiedAt
set_option linter.unusedSimpArgs false
set_option linter.unusedVariables false
namespace Go.L07
open Go.Ev Go.Proofs Go.RowKit Go.Wh

abbrev N2x := Int → Bool → BitVec 64 → BitVec 64 → BitVec 64 → BitVec 64 → BitVec 64
abbrev W2x := Int → Bool → Bool → BitVec 64 → BitVec 64 → BitVec 64
abbrev F0x := Int → Int
noncomputable def NG (P Q : N2x) (E : F0x) : Ev.Spec := joined fun | [.i .i64 w, .bool s, .agg [.u64 a0, .u64 a1], .agg [.u64 b0, .u64 b1]] => some (.tup [vec (P w s a0 a1 b0 b1) (Q w s a0 a1 b0 b1), .i .i64 (E w)]) | _ => none
noncomputable def WG (P Q : W2x) (E : F0x) : Ev.Spec := joined fun | [.i .i64 w, .bool s, .bool h, .agg [.u64 a0, .u64 a1]] => some (.tup [vec (P w s h a0 a1) (Q w s h a0 a1), .i .i64 (E w)]) | _ => none
abbrev nP : N2x := fun w s a0 a1 b0 b1 => ifF (inN w) (vecF (w / 2) (narL narN w s a0 a1 b0 b1)).1
abbrev nQ : N2x := fun w s a0 a1 b0 b1 => ifF (inN w) (vecF (w / 2) (narL narN w s a0 a1 b0 b1)).2
abbrev wP : W2x := fun w s h a0 a1 => ifF (inW w) (vecF (2 * w) (wideL extN w s h a0 a1)).1
abbrev wQ : W2x := fun w s h a0 a1 => ifF (inW w) (vecF (2 * w) (wideL extN w s h a0 a1)).2
theorem g32 : Snd 32 (NG nP nQ (fun w => errF (inN w))) := t_vNar
theorem g34 : Snd 34 (WG wP wQ (fun w => errF (inW w))) := t_vWide

def chainT : List Bool → Option D
  | [] => some (.bool true)
  | b :: l => if b = true then chainT l else some (.bool false)
theorem chainT_all : ∀ {l : List Bool}, (∀ b ∈ l, b = true) → chainT l = some (.bool true)
  | [], _ => rfl
  | b :: l, h => by
    simp only [chainT, h b List.mem_cons_self, if_true]
    exact chainT_all fun c hc => h c (List.mem_cons_of_mem _ hc)

theorem back_lane {w : Int} (hw : w = 8 ∨ w = 16) (s : Bool) {x : BitVec 64} (hx : fitF w x = true) : narN (2 * w) w s (extN w (2 * w) s x) = x := by
  have h : okE w (2 * w) x = true ∧ okN (2 * w) w (extF w (2 * w) s x) = true ∧ narF (2 * w) w s (extF w (2 * w) s x) = x := by
    rcases hw with rfl | rfl
    · obtain ⟨a1, a2, a3, a4, a5, a6⟩ := back_law (w := 8) (u := 16) (v := 32) (by decide) (by decide) (by decide) (by decide) (by decide) (by decide) s hx
      exact ⟨a1, a4, a6⟩
    · obtain ⟨a1, a2, a3, a4, a5, a6⟩ := back_law (w := 16) (u := 32) (v := 64) (by decide) (by decide) (by decide) (by decide) (by decide) (by decide) s hx
      exact ⟨a1, a4, a6⟩
  obtain ⟨h1, h2, h3⟩ := h
  unfold narN extN
  rw [h1]
  show ifF (okN (2 * w) w (extF w (2 * w) s x)) (narF (2 * w) w s (extF w (2 * w) s x)) = x
  rw [h2, h3]
  rfl
theorem back_vec {w : Int} (hw : w = 8 ∨ w = 16) (s : Bool) (a0 a1 : BitVec 64) :
    nP (2 * w) s (wP w s false a0 a1) (wQ w s false a0 a1) (wP w s true a0 a1) (wQ w s true a0 a1) = a0 ∧ nQ (2 * w) s (wP w s false a0 a1) (wQ w s false a0 a1) (wP w s true a0 a1) (wQ w s true a0 a1) = a1 := by
  have hW : inW w = true := by rcases hw with rfl | rfl <;> rfl
  have hN : inN (2 * w) = true := by rcases hw with rfl | rfl <;> rfl
  have h1 := (twice_fit hW).1
  have hd : 2 * w / 2 = w := by omega
  have e1 := list_vecF (okOf_wide hW s false a0 a1)
  have e2 := list_vecF (okOf_wide hW s true a0 a1)
  have key : narL narN (2 * w) s (vecF (2 * w) (wideL extN w s false a0 a1)).1 (vecF (2 * w) (wideL extN w s false a0 a1)).2 (vecF (2 * w) (wideL extN w s true a0 a1)).1 (vecF (2 * w) (wideL extN w s true a0 a1)).2 = listF a0 a1 w := by
    unfold narL
    rw [e1, e2]
    unfold wideL
    rw [hd]
    simp only [Bool.false_eq_true, if_false, if_true, ← List.map_append, List.take_append_drop, List.map_map]
    conv => rhs; rw [← List.map_id (listF a0 a1 w)]
    exact List.map_congr_left fun x hx => back_lane hw s (list_fit h1 x hx)
  unfold nP nQ wP wQ
  rw [hW, hN]
  show (vecF (2 * w / 2) (narL narN (2 * w) s (vecF (2 * w) (wideL extN w s false a0 a1)).1 (vecF (2 * w) (wideL extN w s false a0 a1)).2 (vecF (2 * w) (wideL extN w s true a0 a1)).1 (vecF (2 * w) (wideL extN w s true a0 a1)).2)).1 = a0 ∧ (vecF (2 * w / 2) (narL narN (2 * w) s (vecF (2 * w) (wideL extN w s false a0 a1)).1 (vecF (2 * w) (wideL extN w s false a0 a1)).2 (vecF (2 * w) (wideL extN w s true a0 a1)).1 (vecF (2 * w) (wideL extN w s true a0 a1)).2)).2 = a1
  rw [key, hd, vecF_list a0 a1 h1]
  exact ⟨rfl, rfl⟩
def wid2 (n : BitVec 8) : Int := IntKind.i64.wrap (8 * 2 ^ min (BitVec.setWidth 64 (n % BitVec.ofInt 8 2)).toNat IntKind.i64.bits)
theorem wid2_cases : ∀ n : BitVec 8, (wid2 n = 8 ∨ wid2 n = 16) ∧ IntKind.i64.wrap (2 * wid2 n) = 2 * wid2 n := by decide +kernel
theorem nf9 (P Q : N2x) (E : F0x) (P2 Q2 : W2x) (E2 : F0x) (n : BitVec 8) (a0 a1 : BitVec 64) : ex [(32, NG P Q E), (34, WG P2 Q2 E2), (15, worksS)] (fun _ => []) Tryd.f9 [.u8 n, vec a0 a1] some =
  chainT [(E2 (wid2 n) == 0), (E2 (wid2 n) == 0), (E (IntKind.i64.wrap (2 * wid2 n)) == 0), (E (IntKind.i64.wrap (2 * wid2 n)) == 0),
    (P (IntKind.i64.wrap (2 * wid2 n)) true (P2 (wid2 n) true false a0 a1) (Q2 (wid2 n) true false a0 a1) (P2 (wid2 n) true true a0 a1) (Q2 (wid2 n) true true a0 a1) == a0 && Q (IntKind.i64.wrap (2 * wid2 n)) true (P2 (wid2 n) true false a0 a1) (Q2 (wid2 n) true false a0 a1) (P2 (wid2 n) true true a0 a1) (Q2 (wid2 n) true true a0 a1) == a1),
    (P (IntKind.i64.wrap (2 * wid2 n)) false (P2 (wid2 n) false false a0 a1) (Q2 (wid2 n) false false a0 a1) (P2 (wid2 n) false true a0 a1) (Q2 (wid2 n) false true a0 a1) == a0 && Q (IntKind.i64.wrap (2 * wid2 n)) false (P2 (wid2 n) false false a0 a1) (Q2 (wid2 n) false false a0 a1) (P2 (wid2 n) false true a0 a1) (Q2 (wid2 n) false true a0 a1) == a1)] := by kernel_rfl
theorem back9 : Snd 9 (trueS fun | [.u8 _, .agg [.u64 _, .u64 _]] => true | _ => false) := by
  refine Sound.guard (execFn_sound (ann := fun _ => []) (TableOK.cons g32 (TableOK.cons g34 (TableOK.cons t_works TableOK.nil))) mixed Tryd.func9 (by kernel_rfl) 50) fun ds d h => ?_
  simp only [Option.some.injEq, Prod.mk.injEq] at h
  obtain ⟨h, rfl⟩ := h
  split at h
  · rename_i n a0 a1
    refine (nf9 _ _ _ _ _ _ n a0 a1).trans ?_
    obtain ⟨hw, e⟩ := wid2_cases n
    rw [e]
    revert hw
    generalize wid2 n = w
    intro hw
    have hW : inW w = true := by rcases hw with rfl | rfl <;> rfl
    have hN : inN (2 * w) = true := by rcases hw with rfl | rfl <;> rfl
    obtain ⟨t1, t2⟩ := back_vec hw true a0 a1
    obtain ⟨f1, f2⟩ := back_vec hw false a0 a1
    refine chainT_all ?_
    rw [t1, t2, f1, f2, hW, hN]
    simp [errF]
  · cases h

end Go.L07
namespace Go.Proofs.YtlicpmhlphhabaaDoor.vintsBack
open Go Go.L07 Go.Ev Go.RowKit Go.ChangeShapes Go.WideShapes Go.ChangeAt
set_option maxRecDepth 100000 in
theorem lifted (os : Os) (started : os.Started) (H : Type) (enc : TypeId × Value → H) :
    ReturnsInHanded {} Tryd.checked os 9 .any (fun w args => (Rows.vintsBackSpec.pre enc Tryd.prog Tryd.f9 [] false w args ∧ laidMetH Tryd.prog laid2 w) ∧ sizedMet enc Tryd.prog Tryd.f9 (OpenSpec.ofChange Rows.vintsBackSpec) false w args)
      (Rows.vintsBackSpec.post enc Tryd.prog Tryd.f9 false true false false) := by
  refine returnsInHanded_of_change_and (C := Tryd.checked) (X := fun w _ => laidMetH Tryd.prog laid2 w) (fun _ _ _ hh h => h.of_heap hh) own started (by kernel_rfl) Tryd.func9
    (ChangeSpec.witness_shaped (enc := enc) (C := Tryd.checked) (os := os) (X := fun w _ => laidMetH Tryd.prog laid2 w) false (World.doorLaid Tryd.prog 19 os) #[.int .u8 0, .agg #[.int .u64 0, .int .u64 0]] 8 rfl (World.shaped_of_RefB (by kernel_rfl) (by kernel_rfl)) (by kernel_rfl) (by kernel_rfl) (by kernel_rfl)
      (door_met os _)) ?_
  intro W base args ds gs before hval0 hW _ hwt hL hsz
  have hval : ∀ (j : Nat) t v, Tryd.f9.params[j]? = some t → args[j]? = some v → Value.okWide Tryd.prog W .any base t v := hval0
  have hW' := hW
  obtain ⟨p, q, hA0, hV, rfl, hfz, hnd⟩ := hW
  have hA : DataW.TrodAll enc Tryd.prog W 0 (fun _ => true) true Tryd.f9.params.toList args.toList ds p := hA0
  rw [Tryd.params9] at hA hval
  obtain ⟨v0, vs0, d0, ds0, p0, q0, hargs, rfl, rfl, h0, r0⟩ := trodAll_cons hA
  obtain ⟨v1, vs1, d1, ds1, p1, q1, rfl, rfl, rfl, h1, r1⟩ := trodAll_cons r0
  obtain ⟨rfl, rfl, rfl⟩ := trodAll_nil r1
  obtain rfl : args = #[v0, v1] := by cases args; simp_all
  obtain ⟨x0, l0⟩ := arg_u8 (own := none) Tryd.underlying5 (hval 0 5 v0 rfl rfl) h0
  obtain ⟨x1, y1, l1⟩ := a_vec (own := none) (hval 1 25 v1 rfl rfl) h1
  refine (call_true back9 (ds := [.u8 x0, vec x1 y1]) rfl (glob_of_laid hL) (by simp only [lie]; exact ⟨_, _, rfl, l0, _, _, rfl, l1, rfl⟩) (by kernel_rfl)).mono fun e W' ⟨he, hb⟩ => ?_
  subst he
  exact ⟨_, rfl, post_law hW' hb laidOut (by kernel_rfl) rfl (by kernel_rfl) Tryd.underlying4 rfl⟩

theorem holds : Rows.VintsBackSaid :=
  OpenClaim.holds_of_wide 9 Tryd.f9 rfl rfl rfl rfl rfl rfl rfl ⟨rfl, rfl, rfl, rfl, rfl⟩ rfl rfl rfl rfl rfl (by kernel_rfl) Tryd.func9 (by kernel_rfl)
    (of_decide_eq_true (by kernel_rfl)) (by unfold Func.isWrapper; first | (rw [if_pos (by decide +kernel)]; kernel_rfl) | (rw [if_neg (by decide +kernel)]; exact ⟨rfl, rfl⟩))
    (fun os started H enc _ => lifted os started H enc)
end Go.Proofs.YtlicpmhlphhabaaDoor.vintsBack
namespace Go.Proofs.YtlicpmhlphhabaaDoor
open Go

theorem vintsBackCard_holds : Rows.VintsBackCardSaid :=
  Claim7.holds_tied_plain_at .later [] [.data, .data] true (true, "90bfb9091962d32cfb84b45d5e24cb5b4bf6a9b0a558cfb03f8975f9e19d4995") false
    vintsBack.holds (fun _ h => by cases h) (by kernel_rfl) (fun _ h => by cases h) vintsBack_row_tie rfl ⟨rfl, rfl⟩ (by kernel_rfl) rfl
    (fun f fn hf hfn => by
      obtain rfl : f = 9 := Option.some.inj ((show Tryd.prog.funcNamed "jacquard/jacquardlaw07.VintsBack" = some 9 by kernel_rfl).symm.trans hf) |>.symm
      obtain rfl : fn = Tryd.f9 := (Option.some.inj (Tryd.func9.symm.trans hfn)).symm
      exact ⟨by kernel_rfl, fun j t ht => by
        rw [Tryd.params9] at ht
        have hm : t ∈ [5, 25] := by simpa using Array.mem_of_getElem? ht
        have hall : ([5, 25].all fun u => !Tryd.prog.wantsStandIn u) = true := by kernel_rfl
        exact (show Tryd.prog.wantsStandIn t = false by simpa using List.all_eq_true.1 hall t hm)⟩)
    (by kernel_rfl)
#print axioms vintsBackCard_holds
end Go.Proofs.YtlicpmhlphhabaaDoor

/-
  PROVED HERE: the tied card of VintsMasks, for every input: a vector is the same as itself in all lanes; of two vectors the mask of those lanes that are the same has all just if they are the same. No conditions beyond the card's own.
-/
import Derived.Test.YtlicpmhlphhabaaDoorW07g
import Derived.SevenTiedAt
set_option linter.unusedSimpArgs false
set_option linter.unusedVariables false
namespace Go.L07
open Go.Ev Go.Proofs Go.RowKit Go.Wh

def chainT : List Bool → Option D
  | [] => some (.bool true)
  | b :: l => if b = true then chainT l else some (.bool false)
theorem chainT_all : ∀ {l : List Bool}, (∀ b ∈ l, b = true) → chainT l = some (.bool true)
  | [], _ => rfl
  | b :: l, h => by
    simp only [chainT, h b List.mem_cons_self, if_true]
    exact chainT_all fun c hc => h c (List.mem_cons_of_mem _ hc)

theorem t_wid : Snd 16 (widG widF) := by
  refine Sound.join (execFn_sound (ann := fun _ => []) TableOK.nil mixed Tryd.func16 (by kernel_rfl) 50) fun ds d h => ?_
  split at h
  · cases h; kernel_rfl
  · cases h
abbrev G2x := BitVec 64 → BitVec 64 → Int → Int → BitVec 64
abbrev H2x := Int → Int → Int
noncomputable def GG (U : G2x) (H : H2x) : Ev.Spec := joined fun | [.agg [.u64 x, .u64 y], .i .i64 t, .i .i64 i] => some (.tup [.u64 (U x y t i), .i .i64 (H t i)]) | _ => none
abbrev gU : G2x := fun x y t i => ifF (okI t i) (getF x y t i)
theorem g17 : Snd 17 (GG gU (fun t i => errF (okI t i))) := Get13
abbrev oP : B2x := fun o w a0 a1 b0 b1 => ifF (okT twoN twoR o w a0 a1 b0 b1) (vecF w (lT twoN o w a0 a1 b0 b1)).1
abbrev oQ : B2x := fun o w a0 a1 b0 b1 => ifF (okT twoN twoR o w a0 a1 b0 b1) (vecF w (lT twoN o w a0 a1 b0 b1)).2
abbrev oE : E2x := fun o w a0 a1 b0 b1 => errF (okT twoN twoR o w a0 a1 b0 b1)
theorem g13' : Snd 13 (V2G oP oQ oE) := t_V13
theorem chainT_if {b : Bool} {l : List Bool} (h : b = true) : chainT (b :: l) = chainT l := by simp only [chainT, h, if_true]
theorem get_list {x y : BitVec 64} {w i : Int} (hi : okI w i = true) : getF x y w i = (listF x y w).getD i.toNat 0#64 := by
  simp only [okI, Bool.and_eq_true, decide_eq_true_eq] at hi
  obtain ⟨⟨hw, h0⟩, h1⟩ := hi
  have hp := okW_pos hw
  rw [listF_get (by omega), Int.toNat_of_nonneg h0]

abbrev A1x := Int → BitVec 64 → BitVec 64 → Bool
abbrev M1x := Int → BitVec 64 → BitVec 64 → BitVec 64
abbrev F1x := Int → BitVec 64 → BitVec 64 → Int
noncomputable def AG (A : A1x) (F : F1x) : Ev.Spec := joined fun | [.i .i64 w, .agg [.u64 a0, .u64 a1]] => some (.tup [.bool (A w a0 a1), .i .i64 (F w a0 a1)]) | _ => none
noncomputable def MG (M : M1x) (F : F1x) : Ev.Spec := joined fun | [.i .i64 w, .agg [.u64 a0, .u64 a1]] => some (.tup [.u64 (M w a0 a1), .i .i64 (F w a0 a1)]) | _ => none
abbrev okH (o : BitVec 8) (w : Int) (a0 a1 b0 b1 : BitVec 64) : Bool := okEach w (rT thanE o w a0 a1 b0 b1) (lV thanC thanE o w a0 a1 b0 b1)
abbrev hP : B2x := fun o w a0 a1 b0 b1 => ifF (okH o w a0 a1 b0 b1) (vecF w (lV thanC thanE o w a0 a1 b0 b1)).1
abbrev hQ : B2x := fun o w a0 a1 b0 b1 => ifF (okH o w a0 a1 b0 b1) (vecF w (lV thanC thanE o w a0 a1 b0 b1)).2
abbrev hE : E2x := fun o w a0 a1 b0 b1 => errF (okH o w a0 a1 b0 b1)
abbrev aA : A1x := fun w a0 a1 => okW w && noZero (listF a0 a1 w)
abbrev mM : M1x := fun w a0 a1 => ifF (okW w) (hiBits w 0 0#64 (listF a0 a1 w))
abbrev fF : F1x := fun w _ _ => errF (okW w)
theorem g26 : Snd 26 (V2G hP hQ hE) := t_V26
theorem g28 : Snd 28 (AG aA fF) := t_vAll
theorem g30 : Snd 30 (MG mM fF) := t_vMask
theorem nf10 (W : BitVec 8 → Int) (P Q : B2x) (E : E2x) (M : M1x) (F : F1x) (A : A1x) (F2 : F1x) (n : BitVec 8) (a0 a1 b0 b1 : BitVec 64) : ex [(16, widG W), (26, V2G P Q E), (30, MG M F), (28, AG A F2), (15, worksS)] (fun _ => []) Tryd.f10 [.u8 n, vec a0 a1, vec b0 b1] some =
  if W n = 0 then none else chainT [(E 32#8 (W n) a0 a1 a0 a1 == 0), (F (W n) (P 32#8 (W n) a0 a1 a0 a1) (Q 32#8 (W n) a0 a1 a0 a1) == 0), (E 32#8 (W n) a0 a1 b0 b1 == 0), (F2 (W n) (P 32#8 (W n) a0 a1 b0 b1) (Q 32#8 (W n) a0 a1 b0 b1) == 0),
    (M (W n) (P 32#8 (W n) a0 a1 a0 a1) (Q 32#8 (W n) a0 a1 a0 a1) == 1#64 <<< (BitVec.ofInt 64 (IntKind.i64.wrap (Int.tdiv 128 (W n)))).toNat - 1#64),
    ((M (W n) (P 32#8 (W n) a0 a1 b0 b1) (Q 32#8 (W n) a0 a1 b0 b1) == 1#64 <<< (BitVec.ofInt 64 (IntKind.i64.wrap (Int.tdiv 128 (W n)))).toNat - 1#64) == (a0 == b0 && a1 == b1)),
    (A (W n) (P 32#8 (W n) a0 a1 b0 b1) (Q 32#8 (W n) a0 a1 b0 b1) == (a0 == b0 && a1 == b1))] := by kernel_rfl
theorem than_eq {w : Int} {x y : BitVec 64} (hx : fitF w x = true) (hy : fitF w y = true) : thanC 32#8 w x y = (x == y) ∧ thanE 32#8 w x y = 0 := by
  have hm : mayF w [x, y] = true := by
    simp only [fitF, Bool.and_eq_true] at hx hy
    simp [mayF, hx.1, of_decide_eq_true hx.2, of_decide_eq_true hy.2]
  unfold thanC thanE
  rw [hm]
  exact ⟨rfl, rfl⟩
def sel (w : Int) (c : Bool) : BitVec 64 := if c = true then maskF w else 0#64
def cs (l k : List (BitVec 64)) : List Bool := List.zipWith (fun x y => x == y) l k
theorem lV_cs {w : Int} : ∀ (l k : List (BitVec 64)), (∀ x ∈ l, fitF w x = true) → (∀ y ∈ k, fitF w y = true) → List.zipWith (thV thanC thanE 32#8 w) l k = (cs l k).map (sel w) ∧ (List.zipWith (thanE 32#8 w) l k).all (fun r => r == 0) = true
  | [], _, _, _ => by simp [cs]
  | _ :: _, [], _, _ => by simp [cs]
  | x :: l, y :: k, hl, hk => by
    obtain ⟨e1, e2⟩ := than_eq (hl x List.mem_cons_self) (hk y List.mem_cons_self)
    obtain ⟨i1, i2⟩ := lV_cs l k (fun z hz => hl z (List.mem_cons_of_mem _ hz)) (fun z hz => hk z (List.mem_cons_of_mem _ hz))
    simp only [List.zipWith_cons_cons, i1, i2, cs, List.map_cons, List.all_cons, e2, beq_self_eq_true, Bool.true_and, and_true]
    simp only [thV, e1, e2, beq_self_eq_true, Bool.true_and, sel]
theorem cs_all : ∀ (l k : List (BitVec 64)), l.length = k.length → ((cs l k).all id = true ↔ l = k)
  | [], [], _ => by simp [cs]
  | [], _ :: _, h => by simp at h
  | _ :: _, [], h => by simp at h
  | x :: l, y :: k, h => by
    have ih := cs_all l k (by simpa using h)
    have e : cs (x :: l) (y :: k) = (x == y) :: cs l k := rfl
    rw [e, List.all_cons, Bool.and_eq_true, ih]
    simp
theorem or_pow {n i : Nat} (h : n < 2 ^ i) : n ||| 2 ^ i = n + 2 ^ i := by
  have := Nat.two_pow_add_eq_or_of_lt h 1
  rw [Nat.mul_one] at this
  rw [Nat.or_comm, ← this, Nat.add_comm]
theorem sgn_sel {w : Int} (hw : okW w = true) (c : Bool) : sgnF w (sel w c) < 0 ↔ c = true := by
  have hm := mask_nat hw
  have hp : 64 < pw w := by rcases okW_cases hw with rfl | rfl | rfl | rfl <;> decide
  cases c
  · unfold sel sgnF
    simp only [Bool.false_eq_true, if_false, iff_false]
    have : ((0#64).toNat : Int) = 0 := rfl
    rw [this, if_pos (by omega)]
    omega
  · unfold sel sgnF
    simp only [if_true, iff_true]
    rw [hm, if_neg (by omega)]
    omega
theorem hi_nat {w : Int} (hw : okW w = true) : ∀ (l : List Bool) (i : Nat) (n : BitVec 64), i + l.length ≤ 16 → n.toNat < 2 ^ i →
    (hiR w i n (l.map (sel w))).toNat < 2 ^ (i + l.length) ∧ ((hiR w i n (l.map (sel w))).toNat + 1 = 2 ^ (i + l.length) ↔ n.toNat + 1 = 2 ^ i ∧ l.all id = true)
  | [], i, n, _, hn => by simp [hiR, hn]
  | c :: l, i, n, hi, hn => by
    have hi' : i + l.length + 1 ≤ 16 := by simpa [Nat.add_assoc] using hi
    have p16 : 2 ^ i ≤ 2 ^ 16 := Nat.pow_le_pow_right (by decide) (by omega)
    have ps : 2 ^ (i + 1) = 2 * 2 ^ i := by rw [Nat.pow_succ]; omega
    have hs : (hiS w i n (sel w c)).toNat = n.toNat + (if c = true then 2 ^ i else 0) := by
      unfold hiS
      by_cases hc : c = true
      · rw [if_pos ((sgn_sel hw c).2 hc), if_pos hc, BitVec.toNat_or]
        have e1 : (BitVec.ofInt 64 (i : Int)).toNat = i := by rw [BitVec.toNat_ofInt]; omega
        have e2 : (1#64 <<< (BitVec.ofInt 64 (i : Int)).toNat).toNat = 2 ^ i := by
          rw [e1, BitVec.toNat_shiftLeft, Nat.shiftLeft_eq]
          show 1 * 2 ^ i % 2 ^ 64 = _
          rw [Nat.one_mul, Nat.mod_eq_of_lt (Nat.lt_of_le_of_lt p16 (by decide))]
        rw [e2, or_pow hn]
      · rw [if_neg (fun h => hc ((sgn_sel hw c).1 h)), if_neg hc]; rfl
    have hlt : (hiS w i n (sel w c)).toNat < 2 ^ (i + 1) := by rw [hs, ps]; split <;> omega
    obtain ⟨r1, r2⟩ := hi_nat hw l (i + 1) (hiS w i n (sel w c)) (by omega) hlt
    have el : i + 1 + l.length = i + (c :: l).length := by simp; omega
    rw [el] at r1 r2
    refine ⟨r1, ?_⟩
    show (hiR w (i + 1) (hiS w i n (sel w c)) (l.map (sel w))).toNat + 1 = _ ↔ _
    rw [r2, hs, ps, List.all_cons]
    cases c
    · simp only [Bool.false_eq_true, if_false, id, Bool.false_and, and_false, iff_false]
      omega
    · simp only [if_true, id, Bool.true_and]
      constructor
      · rintro ⟨h1, h2⟩; exact ⟨by omega, h2⟩
      · rintro ⟨h1, h2⟩; exact ⟨by omega, h2⟩
theorem all_nat {w : Int} (hw : okW w = true) : (1#64 <<< (BitVec.ofInt 64 (128 / w)).toNat - 1#64).toNat + 1 = 2 ^ (128 / w).toNat := by
  rcases okW_cases hw with rfl | rfl | rfl | rfl <;> decide
theorem len_le {w : Int} (hw : okW w = true) : (128 / w).toNat ≤ 16 := by
  rcases okW_cases hw with rfl | rfl | rfl | rfl <;> decide
theorem vec_inj {w : Int} (hw : okW w = true) (a0 a1 b0 b1 : BitVec 64) : listF a0 a1 w = listF b0 b1 w ↔ (a0 == b0 && a1 == b1) = true := by
  constructor
  · intro h
    have e1 := vecF_list a0 a1 hw
    rw [h, vecF_list b0 b1 hw] at e1
    cases e1
    simp
  · intro h
    simp only [Bool.and_eq_true, beq_iff_eq] at h
    rw [h.1, h.2]
theorem masks {w : Int} (hw : okW w = true) (a0 a1 b0 b1 : BitVec 64) : okH 32#8 w a0 a1 b0 b1 = true ∧
    (hiBits w 0 0#64 (lV thanC thanE 32#8 w a0 a1 b0 b1) == 1#64 <<< (BitVec.ofInt 64 (128 / w)).toNat - 1#64) = (a0 == b0 && a1 == b1) ∧ noZero (lV thanC thanE 32#8 w a0 a1 b0 b1) = (a0 == b0 && a1 == b1) := by
  have fa := list_fit (x := a0) (y := a1) hw
  have fb := list_fit (x := b0) (y := b1) hw
  have hl : (listF a0 a1 w).length = (listF b0 b1 w).length := by rw [listF_length, listF_length]
  obtain ⟨e1, e2⟩ := lV_cs (w := w) (listF a0 a1 w) (listF b0 b1 w) fa fb
  have hcl : (cs (listF a0 a1 w) (listF b0 b1 w)).length = (128 / w).toNat := zip_len _ w a0 a1 b0 b1
  have hc : (cs (listF a0 a1 w) (listF b0 b1 w)).all id = (a0 == b0 && a1 == b1) := by
    rw [Bool.eq_iff_iff, cs_all _ _ hl, vec_inj hw]
  have hsl : ∀ z ∈ (cs (listF a0 a1 w) (listF b0 b1 w)).map (sel w), fitF w z = true := by
    intro z hz
    obtain ⟨c, _, rfl⟩ := List.mem_map.1 hz
    unfold sel
    split
    · simp [fitF, hw]
    · exact fit_zero hw
  unfold okH okEach rT lV
  rw [e1, e2]
  have hk : okOf w ((cs (listF a0 a1 w) (listF b0 b1 w)).map (sel w)) = true := by
    simp only [okOf, hw, List.length_map, hcl, decide_true, Bool.true_and, List.all_eq_true]
    intro z hz
    exact decide_eq_true (le_of_fit (hsl z hz))
  refine ⟨by rw [hk]; rfl, ?_, ?_⟩
  · rw [hi_eq w _ 0 _ hsl, ← hc]
    obtain ⟨r1, r2⟩ := hi_nat hw (cs (listF a0 a1 w) (listF b0 b1 w)) 0 0#64 (by rw [hcl]; have := len_le hw; omega) (by decide)
    rw [hcl] at r1 r2
    have ha := all_nat hw
    rw [Bool.eq_iff_iff, beq_iff_eq]
    rw [Nat.zero_add] at r2
    constructor
    · intro h
      exact (r2.1 (by rw [h, ha])).2
    · intro h
      have := r2.2 ⟨rfl, h⟩
      exact BitVec.eq_of_toNat_eq (by omega)
  · rw [← hc]
    unfold noZero
    rw [List.all_map]
    have hm : maskF w ≠ 0#64 := by rcases okW_cases hw with rfl | rfl | rfl | rfl <;> decide
    congr 1
    funext c
    cases c
    · rfl
    · simp [sel, hm]
theorem masks10 : Snd 10 (trueS fun | [.u8 _, .agg [.u64 _, .u64 _], .agg [.u64 _, .u64 _]] => true | _ => false) := by
  refine Sound.guard (execFn_sound (ann := fun _ => []) (TableOK.cons t_wid (TableOK.cons g26 (TableOK.cons g30 (TableOK.cons g28 (TableOK.cons t_works TableOK.nil))))) mixed Tryd.func10 (by kernel_rfl) 50) fun ds d h => ?_
  simp only [Option.some.injEq, Prod.mk.injEq] at h
  obtain ⟨h, rfl⟩ := h
  split at h
  · rename_i n a0 a1 b0 b1
    refine (nf10 _ _ _ _ _ _ _ _ n a0 a1 b0 b1).trans ?_
    have hw := okW_wid n
    revert hw
    generalize widF n = w
    intro hw
    rw [if_neg (okW_ne hw), okW_div hw]
    obtain ⟨s1, s2, s3⟩ := masks hw a0 a1 a0 a1
    obtain ⟨t1, t2, t3⟩ := masks hw a0 a1 b0 b1
    have ls : listF (hP 32#8 w a0 a1 a0 a1) (hQ 32#8 w a0 a1 a0 a1) w = lV thanC thanE 32#8 w a0 a1 a0 a1 := by
      unfold hP hQ
      simp only [s1, ifF, if_true]
      simp only [okH, okEach, Bool.and_eq_true] at s1
      exact list_vecF s1.2
    have lt : listF (hP 32#8 w a0 a1 b0 b1) (hQ 32#8 w a0 a1 b0 b1) w = lV thanC thanE 32#8 w a0 a1 b0 b1 := by
      unfold hP hQ
      simp only [t1, ifF, if_true]
      simp only [okH, okEach, Bool.and_eq_true] at t1
      exact list_vecF t1.2
    refine chainT_all ?_
    unfold hE fF mM aA
    rw [ls, lt, s1, t1]
    simp only [hw, ifF, errF, if_true, Bool.true_and, s2, t2, t3]
    simp
  · cases h

end Go.L07
namespace Go.Proofs.YtlicpmhlphhabaaDoor.vintsMasks
open Go Go.L07 Go.Ev Go.RowKit Go.ChangeShapes Go.WideShapes Go.ChangeAt
set_option maxRecDepth 100000 in
theorem lifted (os : Os) (started : os.Started) (H : Type) (enc : TypeId × Value → H) :
    ReturnsInHanded {} Tryd.checked os 10 .any (fun w args => (Rows.vintsMasksSpec.pre enc Tryd.prog Tryd.f10 [] false w args ∧ laidMetH Tryd.prog laid2 w) ∧ sizedMet enc Tryd.prog Tryd.f10 (OpenSpec.ofChange Rows.vintsMasksSpec) false w args)
      (Rows.vintsMasksSpec.post enc Tryd.prog Tryd.f10 false true false false) := by
  refine returnsInHanded_of_change_and (C := Tryd.checked) (X := fun w _ => laidMetH Tryd.prog laid2 w) (fun _ _ _ hh h => h.of_heap hh) own started (by kernel_rfl) Tryd.func10
    (ChangeSpec.witness_shaped (enc := enc) (C := Tryd.checked) (os := os) (X := fun w _ => laidMetH Tryd.prog laid2 w) false (World.doorLaid Tryd.prog 19 os) #[.int .u8 0, .agg #[.int .u64 0, .int .u64 0], .agg #[.int .u64 0, .int .u64 0]] 8 rfl (World.shaped_of_RefB (by kernel_rfl) (by kernel_rfl)) (by kernel_rfl) (by kernel_rfl) (by kernel_rfl)
      (door_met os _)) ?_
  intro W base args ds gs before hval0 hW _ hwt hL hsz
  have hval : ∀ (j : Nat) t v, Tryd.f10.params[j]? = some t → args[j]? = some v → Value.okWide Tryd.prog W .any base t v := hval0
  have hW' := hW
  obtain ⟨p, q, hA0, hV, rfl, hfz, hnd⟩ := hW
  have hA : DataW.TrodAll enc Tryd.prog W 0 (fun _ => true) true Tryd.f10.params.toList args.toList ds p := hA0
  rw [Tryd.params10] at hA hval
  obtain ⟨v0, vs0, d0, ds0, p0, q0, hargs, rfl, rfl, h0, r0⟩ := trodAll_cons hA
  obtain ⟨v1, vs1, d1, ds1, p1, q1, rfl, rfl, rfl, h1, r1⟩ := trodAll_cons r0
  obtain ⟨v2, vs2, d2, ds2, p2, q2, rfl, rfl, rfl, h2, r2⟩ := trodAll_cons r1
  obtain ⟨rfl, rfl, rfl⟩ := trodAll_nil r2
  obtain rfl : args = #[v0, v1, v2] := by cases args; simp_all
  obtain ⟨x0, l0⟩ := arg_u8 (own := none) Tryd.underlying5 (hval 0 5 v0 rfl rfl) h0
  obtain ⟨x1, y1, l1⟩ := a_vec (own := none) (hval 1 25 v1 rfl rfl) h1
  obtain ⟨x2, y2, l2⟩ := a_vec (own := none) (hval 2 25 v2 rfl rfl) h2
  refine (call_true masks10 (ds := [.u8 x0, vec x1 y1, vec x2 y2]) rfl (glob_of_laid hL) (by simp only [lie]; exact ⟨_, _, rfl, l0, _, _, rfl, l1, _, _, rfl, l2, rfl⟩) (by kernel_rfl)).mono fun e W' ⟨he, hb⟩ => ?_
  subst he
  exact ⟨_, rfl, post_law hW' hb laidOut (by kernel_rfl) rfl (by kernel_rfl) Tryd.underlying4 rfl⟩

theorem holds : Rows.VintsMasksSaid :=
  OpenClaim.holds_of_wide 10 Tryd.f10 rfl rfl rfl rfl rfl rfl rfl ⟨rfl, rfl, rfl, rfl, rfl⟩ rfl rfl rfl rfl rfl (by kernel_rfl) Tryd.func10 (by kernel_rfl)
    (of_decide_eq_true (by kernel_rfl)) (by unfold Func.isWrapper; first | (rw [if_pos (by decide +kernel)]; kernel_rfl) | (rw [if_neg (by decide +kernel)]; exact ⟨rfl, rfl⟩))
    (fun os started H enc _ => lifted os started H enc)
end Go.Proofs.YtlicpmhlphhabaaDoor.vintsMasks
namespace Go.Proofs.YtlicpmhlphhabaaDoor
open Go

theorem vintsMasksCard_holds : Rows.VintsMasksCardSaid :=
  Claim7.holds_tied_plain_at .later [] [.data, .data] true (true, "90bfb9091962d32cfb84b45d5e24cb5b4bf6a9b0a558cfb03f8975f9e19d4995") false
    vintsMasks.holds (fun _ h => by cases h) (by kernel_rfl) (fun _ h => by cases h) vintsMasks_row_tie rfl ⟨rfl, rfl⟩ (by kernel_rfl) rfl
    (fun f fn hf hfn => by
      obtain rfl : f = 10 := Option.some.inj ((show Tryd.prog.funcNamed "jacquard/jacquardlaw07.VintsMasks" = some 10 by kernel_rfl).symm.trans hf) |>.symm
      obtain rfl : fn = Tryd.f10 := (Option.some.inj (Tryd.func10.symm.trans hfn)).symm
      exact ⟨by kernel_rfl, fun j t ht => by
        rw [Tryd.params10] at ht
        have hm : t ∈ [5, 25, 25] := by simpa using Array.mem_of_getElem? ht
        have hall : ([5, 25, 25].all fun u => !Tryd.prog.wantsStandIn u) = true := by kernel_rfl
        exact (show Tryd.prog.wantsStandIn t = false by simpa using List.all_eq_true.1 hall t hm)⟩)
    (by kernel_rfl)
#print axioms vintsMasksCard_holds
end Go.Proofs.YtlicpmhlphhabaaDoor

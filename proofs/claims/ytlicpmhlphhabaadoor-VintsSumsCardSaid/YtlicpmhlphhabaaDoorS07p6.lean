/-
  PROVED HERE: the tied card of VintsSums, for every input: sums and differences undo each other, in all lanes at once; the sum of a vector's neighbours, widened, has as its lanes' sum that of all lanes. No conditions beyond the card's own.
-/
import Derived.Test.YtlicpmhlphhabaaDoorW07i
import Derived.SevenTiedAt
set_option linter.unusedSimpArgs false
set_option linter.unusedVariables false
namespace Go.L07
open Go.Ev Go.Proofs Go.RowKit Go.Wh

def chainT : List Bool → Option D
  | [] => some (.bool true)
  | b :: l => if b = true then chainT l else some (.bool false)
theorem chainT_all : ∀ {l : List Bool}, (∀ b ∈ l, b = true) → chainT l = some (.bool true)
  | [], _ => rfl
  | b :: l, h => by
    simp only [chainT, h b List.mem_cons_self, if_true]
    exact chainT_all fun c hc => h c (List.mem_cons_of_mem _ hc)

theorem t_wid : Snd 16 (widG widF) := by
  refine Sound.join (execFn_sound (ann := fun _ => []) TableOK.nil mixed Tryd.func16 (by kernel_rfl) 50) fun ds d h => ?_
  split at h
  · cases h; kernel_rfl
  · cases h
abbrev G2x := BitVec 64 → BitVec 64 → Int → Int → BitVec 64
abbrev H2x := Int → Int → Int
noncomputable def GG (U : G2x) (H : H2x) : Ev.Spec := joined fun | [.agg [.u64 x, .u64 y], .i .i64 t, .i .i64 i] => some (.tup [.u64 (U x y t i), .i .i64 (H t i)]) | _ => none
abbrev gU : G2x := fun x y t i => ifF (okI t i) (getF x y t i)
theorem g17 : Snd 17 (GG gU (fun t i => errF (okI t i))) := Get13
abbrev oP : B2x := fun o w a0 a1 b0 b1 => ifF (okT twoN twoR o w a0 a1 b0 b1) (vecF w (lT twoN o w a0 a1 b0 b1)).1
abbrev oQ : B2x := fun o w a0 a1 b0 b1 => ifF (okT twoN twoR o w a0 a1 b0 b1) (vecF w (lT twoN o w a0 a1 b0 b1)).2
abbrev oE : E2x := fun o w a0 a1 b0 b1 => errF (okT twoN twoR o w a0 a1 b0 b1)
theorem g13' : Snd 13 (V2G oP oQ oE) := t_V13
theorem chainT_if {b : Bool} {l : List Bool} (h : b = true) : chainT (b :: l) = chainT l := by simp only [chainT, h, if_true]
theorem get_list {x y : BitVec 64} {w i : Int} (hi : okI w i = true) : getF x y w i = (listF x y w).getD i.toNat 0#64 := by
  simp only [okI, Bool.and_eq_true, decide_eq_true_eq] at hi
  obtain ⟨⟨hw, h0⟩, h1⟩ := hi
  have hp := okW_pos hw
  rw [listF_get (by omega), Int.toNat_of_nonneg h0]

abbrev P2x := Int → Bool → BitVec 64 → BitVec 64 → BitVec 64
abbrev F0x := Int → Int
noncomputable def PG (P Q : P2x) (E : F0x) : Ev.Spec := joined fun | [.i .i64 w, .bool s, .agg [.u64 a0, .u64 a1]] => some (.tup [vec (P w s a0 a1) (Q w s a0 a1), .i .i64 (E w)]) | _ => none
abbrev rP : P2x := fun w s a0 a1 => ifF (inP w) (vecF (2 * w) (prsL extN w s a0 a1)).1
abbrev rQ : P2x := fun w s a0 a1 => ifF (inP w) (vecF (2 * w) (prsL extN w s a0 a1)).2
theorem g23 : Snd 23 (PG rP rQ (fun w => errF (inP w))) := t_vPrs
def ann6 : Nat → List Nat := fun | 15 => [13, 15, 16, 17, 71, 72] | 10 => [4, 13, 15, 16, 17, 60, 61, 62] | _ => []
def sumL (l : List (BitVec 64)) : BitVec 64 := l.foldl (fun s x => s + x) 0#64
theorem nf6 (W : BitVec 8 → Int) (P Q : B2x) (E : E2x) (P2 Q2 : P2x) (E2 : F0x) (n : BitVec 8) (a0 a1 b0 b1 : BitVec 64) : ex [(16, widG W), (13, V2G P Q E), (23, PG P2 Q2 E2), (24, listS), (25, bytesS), (15, worksS)] ann6 Tryd.f6 [.u8 n, vec a0 a1, vec b0 b1] some =
  if (!(E 1#8 (W n) a0 a1 b0 b1 == 0)) = false then if (!(E 2#8 (W n) (P 1#8 (W n) a0 a1 b0 b1) (Q 1#8 (W n) a0 a1 b0 b1) b0 b1 == 0)) = false then
    if (!(P 2#8 (W n) (P 1#8 (W n) a0 a1 b0 b1) (Q 1#8 (W n) a0 a1 b0 b1) b0 b1 == a0 && Q 2#8 (W n) (P 1#8 (W n) a0 a1 b0 b1) (Q 1#8 (W n) a0 a1 b0 b1) b0 b1 == a1)) = true then some (.bool false)
    else chainT [(E2 8 == 0), (E2 16 == 0), (sumL (listF (P2 16 false (P2 8 false a0 a1) (Q2 8 false a0 a1)) (Q2 16 false (P2 8 false a0 a1) (Q2 8 false a0 a1)) 32) == sumL ((bytesF a0 a1).map zx))]
  else some (.bool false) else some (.bool false) := by kernel_rfl
theorem two_sub {w : Int} {a b : BitVec 64} (ha : fitF w a = true) (hb : fitF w b = true) : twoN 2#8 w a b = a - b &&& maskF w ∧ twoR 2#8 w a b = 0 := by
  have hm := may2 ha hb
  unfold twoN twoR ifF
  rw [if_pos hm, if_pos hm]
  exact ⟨rfl, rfl⟩
theorem two_add' {w : Int} {a b : BitVec 64} (ha : fitF w a = true) (hb : fitF w b = true) : twoN 1#8 w a b = a + b &&& maskF w ∧ twoR 1#8 w a b = 0 := by
  have hm := may2 ha hb
  unfold twoN twoR ifF
  rw [if_pos hm, if_pos hm]
  exact ⟨rfl, rfl⟩
theorem add_sub {w : Int} {x y : BitVec 64} (hx : fitF w x = true) : (x + y &&& maskF w) - y &&& maskF w = x := by
  obtain ⟨hw, h1⟩ := fitF_nat hx
  have hx' := x.isLt
  have hy := y.isLt
  refine eq_nat ?_
  rw [and_nat hw, BitVec.toNat_sub]
  have e := and_nat hw (x + y)
  rw [BitVec.toNat_add] at e
  generalize (x + y &&& maskF w).toNat = m at *
  rcases okW_cases hw with rfl | rfl | rfl | rfl
  · rw [pw8] at *; omega
  · rw [pw16] at *; omega
  · rw [pw32] at *; omega
  · rw [pw64] at *; omega
theorem zip_back {w : Int} : ∀ l k : List (BitVec 64), l.length = k.length → (∀ x ∈ l, fitF w x = true) → (∀ y ∈ k, fitF w y = true) → List.zipWith (twoN 2#8 w) (List.zipWith (twoN 1#8 w) l k) k = l
  | [], [], _, _, _ => rfl
  | [], _ :: _, h, _, _ => by simp at h
  | _ :: _, [], h, _, _ => by simp at h
  | x :: l, y :: k, h, hl, hk => by
    have hx := hl x List.mem_cons_self
    have hy := hk y List.mem_cons_self
    have hw := (fitF_nat hx).1
    simp only [List.zipWith_cons_cons]
    rw [zip_back l k (by simpa using h) (fun z hz => hl z (List.mem_cons_of_mem _ hz)) (fun z hz => hk z (List.mem_cons_of_mem _ hz)), (two_add' hx hy).1, (two_sub (fit_and hw _) hy).1, add_sub hx]
theorem okT_of {o : BitVec 8} {w : Int} {a0 a1 b0 b1 : BitVec 64} (hw : okW w = true) (ho : exclB o = false) (h : ∀ x y, fitF w x = true → fitF w y = true → twoN o w x y ≤ maskF w ∧ twoR o w x y = 0) : okT twoN twoR o w a0 a1 b0 b1 = true := by
  have fa := list_fit (x := a0) (y := a1) hw
  have fb := list_fit (x := b0) (y := b1) hw
  have hr : (rT twoR o w a0 a1 b0 b1).all (fun r => r == 0) = true := zip_all0 _ _ fun x hx y hy => (h x y (fa x hx) (fb y hy)).2
  have hl : okOf w (lT twoN o w a0 a1 b0 b1) = true := by
    simp only [okOf, hw, Bool.true_and, Bool.and_eq_true, decide_eq_true_eq, List.all_eq_true]
    refine ⟨zip_len _ w a0 a1 b0 b1, fun z hz => ?_⟩
    unfold lT at hz
    obtain ⟨j, hj, rfl⟩ := List.mem_iff_getElem.1 hz
    rw [List.getElem_zipWith]
    exact (h _ _ (fa _ (List.getElem_mem _)) (fb _ (List.getElem_mem _))).1
  simp only [okT, ho, okEach, hr, hl]
  rfl
theorem sums_back {w : Int} (hw : okW w = true) (a0 a1 b0 b1 : BitVec 64) : okT twoN twoR 1#8 w a0 a1 b0 b1 = true ∧ okT twoN twoR 2#8 w (oP 1#8 w a0 a1 b0 b1) (oQ 1#8 w a0 a1 b0 b1) b0 b1 = true ∧
    oP 2#8 w (oP 1#8 w a0 a1 b0 b1) (oQ 1#8 w a0 a1 b0 b1) b0 b1 = a0 ∧ oQ 2#8 w (oP 1#8 w a0 a1 b0 b1) (oQ 1#8 w a0 a1 b0 b1) b0 b1 = a1 := by
  have k1 : okT twoN twoR 1#8 w a0 a1 b0 b1 = true := okT_of hw (by decide) fun x y hx hy => ⟨by rw [(two_add' hx hy).1]; exact and_le _ _, (two_add' hx hy).2⟩
  have k2 : okT twoN twoR 2#8 w (oP 1#8 w a0 a1 b0 b1) (oQ 1#8 w a0 a1 b0 b1) b0 b1 = true := okT_of hw (by decide) fun x y hx hy => ⟨by rw [(two_sub hx hy).1]; exact and_le _ _, (two_sub hx hy).2⟩
  have k3 : lT twoN 2#8 w (oP 1#8 w a0 a1 b0 b1) (oQ 1#8 w a0 a1 b0 b1) b0 b1 = listF a0 a1 w := by
    have hk := k1
    simp only [okT, okEach, Bool.and_eq_true] at hk
    unfold oP oQ
    simp only [k1, ifF, if_true]
    unfold lT
    rw [list_vecF (w := w) (l := List.zipWith (twoN 1#8 w) (listF a0 a1 w) (listF b0 b1 w)) hk.2.2]
    exact zip_back _ _ (by rw [listF_length, listF_length]) (list_fit hw) (list_fit hw)
  refine ⟨k1, k2, ?_, ?_⟩
  · show ifF (okT twoN twoR 2#8 w (oP 1#8 w a0 a1 b0 b1) (oQ 1#8 w a0 a1 b0 b1) b0 b1) (vecF w (lT twoN 2#8 w (oP 1#8 w a0 a1 b0 b1) (oQ 1#8 w a0 a1 b0 b1) b0 b1)).1 = a0
    rw [k2, k3, vecF_list a0 a1 hw]; rfl
  · show ifF (okT twoN twoR 2#8 w (oP 1#8 w a0 a1 b0 b1) (oQ 1#8 w a0 a1 b0 b1) b0 b1) (vecF w (lT twoN 2#8 w (oP 1#8 w a0 a1 b0 b1) (oQ 1#8 w a0 a1 b0 b1) b0 b1)).2 = a1
    rw [k2, k3, vecF_list a0 a1 hw]; rfl
/-! the sum of all lanes -/
theorem fold_add (l : List (BitVec 64)) : ∀ c : BitVec 64, l.foldl (fun s x => s + x) c = c + sumL l := by
  induction l with
  | nil => intro c; simp [sumL]
  | cons x l ih =>
    intro c
    simp only [sumL, List.foldl_cons]
    rw [ih, ih (0#64 + x), BitVec.zero_add, BitVec.add_assoc]
theorem sum_cons (x : BitVec 64) (l : List (BitVec 64)) : sumL (x :: l) = x + sumL l := by
  show List.foldl _ (0#64 + x) l = _
  rw [fold_add, BitVec.zero_add]
theorem sum_pairs : ∀ l : List (BitVec 64), l.length % 2 = 0 → sumL (pairL (fun x y => x + y) l) = sumL l
  | [], _ => rfl
  | [_], h => by simp at h
  | x :: y :: l, h => by
    simp only [pairL]
    rw [sum_cons, sum_cons, sum_cons, sum_pairs l (by have e : (x :: y :: l).length = l.length + 2 := rfl; omega), BitVec.add_assoc]
theorem sum_plain {w : Int} (hw : inP w = true) {x y : BitVec 64} (hx : fitF w x = true) (hy : fitF w y = true) : sumM extN w false x y = x + y ∧ fitF (2 * w) (x + y) = true := by
  have h1 := twice_fit (inP_W hw)
  have o : ∀ z, fitF w z = true → extN w (2 * w) false z = z := fun z hz => by
    have : ¬ (2 * w < w) := by omega
    have hk : okE w (2 * w) z = true := by simp [okE, hz, h1.2.1, this]
    unfold extN extF
    rw [hk]; rfl
  have hx' := (fitF_nat hx).2
  have hy' := (fitF_nat hy).2
  have hf : fitF (2 * w) (x + y) = true := by
    refine fit_of_nat h1.2.1 ?_
    rw [BitVec.toNat_add]
    rcases inP_cases hw with rfl | rfl
    · rw [pw8] at *; rw [show pw (2 * 8) = 65536 from rfl]; omega
    · rw [pw16] at *; rw [show pw (2 * 16) = 4294967296 from rfl]; omega
  refine ⟨?_, hf⟩
  unfold sumM
  rw [o x hx, o y hy]
  exact Go.Wh.and_fit h1.2.1 (le_of_fit hf)
theorem pair_mem2 {f : BitVec 64 → BitVec 64 → BitVec 64} {z : BitVec 64} : ∀ l : List (BitVec 64), z ∈ pairL f l → ∃ x ∈ l, ∃ y ∈ l, z = f x y
  | [], h => by cases h
  | [_], h => by cases h
  | x :: y :: l, h => by
    simp only [pairL, List.mem_cons] at h
    rcases h with rfl | h
    · exact ⟨x, by simp, y, by simp, rfl⟩
    · obtain ⟨a, ha, b, hb, e⟩ := pair_mem2 l h
      exact ⟨a, by simp [ha], b, by simp [hb], e⟩
theorem list_bytes (x y : BitVec 64) : listF x y 8 = (bytesF x y).map zx := by
  have e : [getF x y 8 0, getF x y 8 1, getF x y 8 2, getF x y 8 3, getF x y 8 4, getF x y 8 5, getF x y 8 6, getF x y 8 7, getF x y 8 8, getF x y 8 9, getF x y 8 10, getF x y 8 11, getF x y 8 12, getF x y 8 13, getF x y 8 14, getF x y 8 15] =
      [zx (bt x 0), zx (bt x 8), zx (bt x 16), zx (bt x 24), zx (bt x 32), zx (bt x 40), zx (bt x 48), zx (bt x 56), zx (bt y 0), zx (bt y 8), zx (bt y 16), zx (bt y 24), zx (bt y 32), zx (bt y 40), zx (bt y 48), zx (bt y 56)] := routeL (ρ := Go.Rt.at3 x y 0#64) (by kernel_rfl)
  exact e
theorem sums_all (a0 a1 : BitVec 64) : sumL (listF (rP 16 false (rP 8 false a0 a1) (rQ 8 false a0 a1)) (rQ 16 false (rP 8 false a0 a1) (rQ 8 false a0 a1)) 32) = sumL ((bytesF a0 a1).map zx) := by
  have p8 : inP 8 = true := by decide
  have p16 : inP 16 = true := by decide
  have i1 : listF (rP 8 false a0 a1) (rQ 8 false a0 a1) 16 = prsL extN 8 false a0 a1 := by
    have h : listF (vecF (2 * 8) (prsL extN 8 false a0 a1)).1 (vecF (2 * 8) (prsL extN 8 false a0 a1)).2 16 = prsL extN 8 false a0 a1 := list_vecF (okOf_prs p8 extN false a0 a1)
    revert h
    unfold rP rQ
    generalize prsL extN 8 false a0 a1 = l
    intro h
    simp only [p8, ifF, if_true, h]
  have i2 : ∀ b0 b1, listF (rP 16 false b0 b1) (rQ 16 false b0 b1) 32 = prsL extN 16 false b0 b1 := fun b0 b1 => by
    have h : listF (vecF (2 * 16) (prsL extN 16 false b0 b1)).1 (vecF (2 * 16) (prsL extN 16 false b0 b1)).2 32 = prsL extN 16 false b0 b1 := list_vecF (okOf_prs p16 extN false b0 b1)
    revert h
    unfold rP rQ
    generalize prsL extN 16 false b0 b1 = l
    intro h
    simp only [p16, ifF, if_true, h]
  rw [i2]
  unfold prsL
  rw [i1]
  unfold prsL
  have f8 := list_fit (x := a0) (y := a1) (w := 8) (by decide)
  have l16 : (listF a0 a1 8).length = 16 := listF_length a0 a1 8
  rw [← list_bytes]
  revert f8 l16
  generalize listF a0 a1 8 = l
  intro f8 l16
  have e1 : pairL (sumM extN 8 false) l = pairL (fun x y => x + y) l := pairL_id l fun x hx y hy => (sum_plain p8 (f8 x hx) (f8 y hy)).1
  rw [e1]
  have f16 : ∀ z ∈ pairL (fun x y => x + y) l, fitF 16 z = true := fun z hz => by
    obtain ⟨x, hx, y, hy, rfl⟩ := pair_mem2 l hz
    exact (sum_plain p8 (f8 x hx) (f8 y hy)).2
  have e2 : pairL (sumM extN 16 false) (pairL (fun x y => x + y) l) = pairL (fun x y => x + y) (pairL (fun x y => x + y) l) := pairL_id _ fun x hx y hy => (sum_plain p16 (f16 x hx) (f16 y hy)).1
  rw [e2, sum_pairs _ (by rw [pairL_len, l16]), sum_pairs _ (by rw [l16])]
theorem sums6 : Snd 6 (trueS fun | [.u8 _, .agg [.u64 _, .u64 _], .agg [.u64 _, .u64 _]] => true | _ => false) := by
  refine Sound.guard (execFn_sound (ann := ann6) (TableOK.cons t_wid (TableOK.cons g13' (TableOK.cons g23 (TableOK.cons list35 (TableOK.cons bytes24 (TableOK.cons t_works TableOK.nil)))))) mixed Tryd.func6 (by kernel_rfl) 50) fun ds d h => ?_
  simp only [Option.some.injEq, Prod.mk.injEq] at h
  obtain ⟨h, rfl⟩ := h
  split at h
  · rename_i n a0 a1 b0 b1
    refine (nf6 widF oP oQ oE rP rQ (fun w => errF (inP w)) n a0 a1 b0 b1).trans ?_
    have hw := okW_wid n
    revert hw
    generalize widF n = w
    intro hw
    obtain ⟨k1, k2, k3, k4⟩ := sums_back hw a0 a1 b0 b1
    have x1 : oE 1#8 w a0 a1 b0 b1 = 0 := by unfold oE; rw [k1]; rfl
    have x2 : oE 2#8 w (oP 1#8 w a0 a1 b0 b1) (oQ 1#8 w a0 a1 b0 b1) b0 b1 = 0 := by unfold oE; rw [k2]; rfl
    rw [x1, x2, k3, k4, if_pos (by decide), if_pos (by decide), if_neg (by simp)]
    refine chainT_all ?_
    rw [sums_all]
    simp [show errF (inP 8) = 0 from rfl, show errF (inP 16) = 0 from rfl]
  · cases h

end Go.L07
namespace Go.Proofs.YtlicpmhlphhabaaDoor.vintsSums
open Go Go.L07 Go.Ev Go.RowKit Go.ChangeShapes Go.WideShapes Go.ChangeAt
set_option maxRecDepth 100000 in
theorem lifted (os : Os) (started : os.Started) (H : Type) (enc : TypeId × Value → H) :
    ReturnsInHanded {} Tryd.checked os 6 .any (fun w args => (Rows.vintsSumsSpec.pre enc Tryd.prog Tryd.f6 [] false w args ∧ laidMetH Tryd.prog laid2 w) ∧ sizedMet enc Tryd.prog Tryd.f6 (OpenSpec.ofChange Rows.vintsSumsSpec) false w args)
      (Rows.vintsSumsSpec.post enc Tryd.prog Tryd.f6 false true false false) := by
  refine returnsInHanded_of_change_and (C := Tryd.checked) (X := fun w _ => laidMetH Tryd.prog laid2 w) (fun _ _ _ hh h => h.of_heap hh) own started (by kernel_rfl) Tryd.func6
    (ChangeSpec.witness_shaped (enc := enc) (C := Tryd.checked) (os := os) (X := fun w _ => laidMetH Tryd.prog laid2 w) false (World.doorLaid Tryd.prog 19 os) #[.int .u8 0, .agg #[.int .u64 0, .int .u64 0], .agg #[.int .u64 0, .int .u64 0]] 8 rfl (World.shaped_of_RefB (by kernel_rfl) (by kernel_rfl)) (by kernel_rfl) (by kernel_rfl) (by kernel_rfl)
      (door_met os _)) ?_
  intro W base args ds gs before hval0 hW _ hwt hL hsz
  have hval : ∀ (j : Nat) t v, Tryd.f6.params[j]? = some t → args[j]? = some v → Value.okWide Tryd.prog W .any base t v := hval0
  have hW' := hW
  obtain ⟨p, q, hA0, hV, rfl, hfz, hnd⟩ := hW
  have hA : DataW.TrodAll enc Tryd.prog W 0 (fun _ => true) true Tryd.f6.params.toList args.toList ds p := hA0
  rw [Tryd.params6] at hA hval
  obtain ⟨v0, vs0, d0, ds0, p0, q0, hargs, rfl, rfl, h0, r0⟩ := trodAll_cons hA
  obtain ⟨v1, vs1, d1, ds1, p1, q1, rfl, rfl, rfl, h1, r1⟩ := trodAll_cons r0
  obtain ⟨v2, vs2, d2, ds2, p2, q2, rfl, rfl, rfl, h2, r2⟩ := trodAll_cons r1
  obtain ⟨rfl, rfl, rfl⟩ := trodAll_nil r2
  obtain rfl : args = #[v0, v1, v2] := by cases args; simp_all
  obtain ⟨x0, l0⟩ := arg_u8 (own := none) Tryd.underlying5 (hval 0 5 v0 rfl rfl) h0
  obtain ⟨x1, y1, l1⟩ := a_vec (own := none) (hval 1 25 v1 rfl rfl) h1
  obtain ⟨x2, y2, l2⟩ := a_vec (own := none) (hval 2 25 v2 rfl rfl) h2
  refine (call_true sums6 (ds := [.u8 x0, vec x1 y1, vec x2 y2]) rfl (glob_of_laid hL) (by simp only [lie]; exact ⟨_, _, rfl, l0, _, _, rfl, l1, _, _, rfl, l2, rfl⟩) (by kernel_rfl)).mono fun e W' ⟨he, hb⟩ => ?_
  subst he
  exact ⟨_, rfl, post_law hW' hb laidOut (by kernel_rfl) rfl (by kernel_rfl) Tryd.underlying4 rfl⟩

theorem holds : Rows.VintsSumsSaid :=
  OpenClaim.holds_of_wide 6 Tryd.f6 rfl rfl rfl rfl rfl rfl rfl ⟨rfl, rfl, rfl, rfl, rfl⟩ rfl rfl rfl rfl rfl (by kernel_rfl) Tryd.func6 (by kernel_rfl)
    (of_decide_eq_true (by kernel_rfl)) (by unfold Func.isWrapper; first | (rw [if_pos (by decide +kernel)]; kernel_rfl) | (rw [if_neg (by decide +kernel)]; exact ⟨rfl, rfl⟩))
    (fun os started H enc _ => lifted os started H enc)
end Go.Proofs.YtlicpmhlphhabaaDoor.vintsSums
namespace Go.Proofs.YtlicpmhlphhabaaDoor
open Go

theorem vintsSumsCard_holds : Rows.VintsSumsCardSaid :=
  Claim7.holds_tied_plain_at .later [] [.data, .data] true (true, "90bfb9091962d32cfb84b45d5e24cb5b4bf6a9b0a558cfb03f8975f9e19d4995") false
    vintsSums.holds (fun _ h => by cases h) (by kernel_rfl) (fun _ h => by cases h) vintsSums_row_tie rfl ⟨rfl, rfl⟩ (by kernel_rfl) rfl
    (fun f fn hf hfn => by
      obtain rfl : f = 6 := Option.some.inj ((show Tryd.prog.funcNamed "jacquard/jacquardlaw07.VintsSums" = some 6 by kernel_rfl).symm.trans hf) |>.symm
      obtain rfl : fn = Tryd.f6 := (Option.some.inj (Tryd.func6.symm.trans hfn)).symm
      exact ⟨by kernel_rfl, fun j t ht => by
        rw [Tryd.params6] at ht
        have hm : t ∈ [5, 25, 25] := by simpa using Array.mem_of_getElem? ht
        have hall : ([5, 25, 25].all fun u => !Tryd.prog.wantsStandIn u) = true := by kernel_rfl
        exact (show Tryd.prog.wantsStandIn t = false by simpa using List.all_eq_true.1 hall t hm)⟩)
    (by kernel_rfl)
#print axioms vintsSumsCard_holds
end Go.Proofs.YtlicpmhlphhabaaDoor

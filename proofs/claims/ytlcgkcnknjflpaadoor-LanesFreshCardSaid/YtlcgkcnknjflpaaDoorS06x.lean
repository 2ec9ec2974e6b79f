/-
  Part of the proof; what its functions and lemmas say stands in the text.
-/
import Derived.Test.YtlcgkcnknjflpaaDoorS06w
import Derived.Test.YtlcgkcnknjflpaaDoorS06f
set_option linter.unusedSimpArgs false
set_option linter.unusedVariables false
/-!
Chapter 06: LanesMoves and LanesShuffles, what they answer.
-/
namespace Go.L06
open Go.Ev Go.Proofs Go.RowKit Go.Rt

theorem nf10 (a0 a1 b0 b1 : BitVec 64) (l : List (BitVec 8)) : ex [(36, ShufS), (37, ShufS), (38, SwizS), (39, SwizS), (17, worksS)] (fun _ => []) Tryd.f10 [vec a0 a1, vec b0 b1, .a8 l] some = if l.length = 16 then
  if decide (l.length = 16) = true then
    if l.length = 16 then
      if decide (l.length = 16) = true then
        if (ifF (okSh l) (shLo a0 a1 b0 b1 l) == ifF (okSh l) (shLo a0 a1 b0 b1 l) && ifF (okSh l) (shHi a0 a1 b0 b1 l) == ifF (okSh l) (shHi a0 a1 b0 b1 l)) = true then
          if (errF (okSh l) == errF (okSh l)) = true then
            if (sqLo a0 a1 (bytesF b0 b1) == sqLo a0 a1 (bytesF b0 b1) && sqHi a0 a1 (bytesF b0 b1) == sqHi a0 a1 (bytesF b0 b1)) = true then
              some (D.bool true)
            else some (D.bool false)
          else some (D.bool false)
        else some (D.bool false)
      else none
    else none
  else none
else none := by kernel_rfl
theorem moves10 : Snd 10 (trueS fun | [.agg [.u64 _, .u64 _], .agg [.u64 _, .u64 _], .a8 l] => decide (l.length = 16) | _ => false) := by
  refine Sound.guard (execFn_sound (ann := fun _ => []) (TableOK.cons Shuf36 (TableOK.cons Shuf37 (TableOK.cons Swiz38 (TableOK.cons Swiz39 (TableOK.cons works17 TableOK.nil))))) mixed Tryd.func10 (by kernel_rfl) 50) fun ds d h => ?_
  simp only [Option.some.injEq, Prod.mk.injEq] at h
  obtain ⟨h, rfl⟩ := h
  split at h
  · rename_i a0 a1 b0 b1 l
    have hl := of_decide_eq_true h
    refine (nf10 a0 a1 b0 b1 l).trans ?_
    simp [hl]
  · cases h

def lv (c : BitVec 8) : BitVec 8 := if c < 16#8 then c else 16#8
noncomputable def c11 : Code := findLoop (loops (Tryd.f11.body.getD .skip)) 4
noncomputable abbrev keep11 : List Nat := [2, 3, 5, 6, 7, 8, 9]
noncomputable def S11 (a0 : BitVec 64) (a1 : BitVec 64) (b0 : BitVec 64) (b1 : BitVec 64) (f : List (BitVec 8)) (s : List (BitVec 8)) (l : List (BitVec 8)) (z : List (BitVec 8)) (i : Int) : St := ⟨mkT 93 [(2, .ptr 0 0), (3, .ptr 1 0), (5, .ptr 2 0), (6, .ptr 3 0), (7, .ptr 4 0), (8, .ptr 5 0), (9, .i .i64 i)], [some ⟨.agg [.u64 a0, .u64 a1], true⟩, some ⟨.agg [.u64 b0, .u64 b1], true⟩, some ⟨.a8 f, true⟩, some ⟨.a8 s, true⟩, some ⟨.a8 l, true⟩, some ⟨.a8 z, true⟩]⟩
theorem nf11 (a0 : BitVec 64) (a1 : BitVec 64) (b0 : BitVec 64) (b1 : BitVec 64) (f : List (BitVec 8)) (s : List (BitVec 8)) (l : List (BitVec 8)) (z : List (BitVec 8)) (i : Int) (K : Ex → St → Option D) : exec Tryd.prog G0 (tabOf []) (fun _ => []) (fun _ => none) 50 c11 (S11 a0 a1 b0 b1 f s l z i) (fun e st => K e (canon keep11 st)) =
  if decide (i < 16) = true then if 0 ≤ i ∧ i < 16 then if 0 + i.toNat * 1 < (f).length then if 0 ≤ i ∧ i < 16 then if 0 + i.toNat * 1 < (s).length then if 0 ≤ i ∧ i < 16 then if 0 + i.toNat * 1 < (l).length then if 0 ≤ i ∧ i < 16 then if 0 + i.toNat * 1 < (z).length then if decide (z.getD (0 + i.toNat * 1) 0 < BitVec.ofInt 8 16) = true then if 0 ≤ i ∧ i < 16 then if 0 + i.toNat * 1 < (z).length then if 0 ≤ i ∧ i < 16 then if 0 + i.toNat * 1 < ((l.set (0 + i.toNat * 1) 16#8)).length then K .normal ⟨mkT 93 [(2, .ptr 0 0), (3, .ptr 1 0), (5, .ptr 2 0), (6, .ptr 3 0), (7, .ptr 4 0), (8, .ptr 5 0), (9, .i .i64 (IntKind.i64.wrap (i + 1)))], [some ⟨.agg [.u64 a0, .u64 a1], true⟩, some ⟨.agg [.u64 b0, .u64 b1], true⟩, some ⟨.a8 (f.set (0 + i.toNat * 1) (BitVec.ofInt 8 i)), true⟩, some ⟨.a8 (s.set (0 + i.toNat * 1) (BitVec.ofInt 8 (IntKind.i64.wrap (16 + i)))), true⟩, some ⟨.a8 ((l.set (0 + i.toNat * 1) 16#8).set (0 + i.toNat * 1) (z.getD (0 + i.toNat * 1) 0#8)), true⟩, some ⟨.a8 z, true⟩]⟩ else none else none else none else none else K .normal ⟨mkT 93 [(2, .ptr 0 0), (3, .ptr 1 0), (5, .ptr 2 0), (6, .ptr 3 0), (7, .ptr 4 0), (8, .ptr 5 0), (9, .i .i64 (IntKind.i64.wrap (i + 1)))], [some ⟨.agg [.u64 a0, .u64 a1], true⟩, some ⟨.agg [.u64 b0, .u64 b1], true⟩, some ⟨.a8 (f.set (0 + i.toNat * 1) (BitVec.ofInt 8 i)), true⟩, some ⟨.a8 (s.set (0 + i.toNat * 1) (BitVec.ofInt 8 (IntKind.i64.wrap (16 + i)))), true⟩, some ⟨.a8 (l.set (0 + i.toNat * 1) 16#8), true⟩, some ⟨.a8 z, true⟩]⟩ else none else none else none else none else none else none else none else none else K (.exit 0) ⟨mkT 93 [(2, .ptr 0 0), (3, .ptr 1 0), (5, .ptr 2 0), (6, .ptr 3 0), (7, .ptr 4 0), (8, .ptr 5 0), (9, .i .i64 i)], [some ⟨.agg [.u64 a0, .u64 a1], true⟩, some ⟨.agg [.u64 b0, .u64 b1], true⟩, some ⟨.a8 f, true⟩, some ⟨.a8 s, true⟩, some ⟨.a8 l, true⟩, some ⟨.a8 z, true⟩]⟩  := by kernel_rfl
structure X11 where
  a0 : BitVec 64
  a1 : BitVec 64
  b0 : BitVec 64
  b1 : BitVec 64
  f : List (BitVec 8)
  s : List (BitVec 8)
  l : List (BitVec 8)
  z : List (BitVec 8)
  i : Nat
noncomputable abbrev Y11 (y : X11) : St := S11 y.a0 y.a1 y.b0 y.b1 y.f y.s y.l y.z y.i
noncomputable def parse11 (st : St) : Option (Bool × X11) := match st with
  | ⟨t, [some ⟨.agg [.u64 a0, .u64 a1], true⟩, some ⟨.agg [.u64 b0, .u64 b1], true⟩, some ⟨.a8 f, true⟩, some ⟨.a8 s, true⟩, some ⟨.a8 l, true⟩, some ⟨.a8 z, true⟩]⟩ =>
    match t.getD 2 .any, t.getD 3 .any, t.getD 5 .any, t.getD 6 .any, t.getD 7 .any, t.getD 8 .any, t.getD 9 .any with
    | .ptr 0 0, .ptr 1 0, .ptr 2 0, .ptr 3 0, .ptr 4 0, .ptr 5 0, .i .i64 (.ofNat i) => some (decide (t.length = 93 ∧ (f.length = 16 ∧ s.length = 16 ∧ l.length = 16 ∧ z.length = 16 ∧ i ≤ 16)), ⟨a0, a1, b0, b1, f, s, l, z, i⟩)
    | _, _, _, _, _, _, _ => none
  | _ => none
def go11 (y : X11) : Bool := decide (y.i < 16)
def next11 (y : X11) : X11 := { y with f := y.f.set y.i (BitVec.ofInt 8 y.i), s := y.s.set y.i (BitVec.ofInt 8 (IntKind.i64.wrap (16 + (y.i : Int)))), l := y.l.set y.i (lv (y.z.getD y.i 0#8)), i := y.i + 1 }
def I11 (y : X11) : Prop := y.f.length = 16 ∧ y.s.length = 16 ∧ y.l.length = 16 ∧ y.z.length = 16 ∧ y.i ≤ 16
theorem body11 (y : X11) (h : I11 y) (K : Ex → St → Option D) : exec Tryd.prog G0 (tabOf []) (fun _ => []) (fun _ => none) 50 c11 (Y11 y) (fun e st => K e (canon keep11 st)) =
    if go11 y = true then K .normal (Y11 (next11 y)) else if (fun (_ : X11) => false) y = true then K .ret (Y11 y) else K (.exit 0) (Y11 y) := by
  obtain ⟨hf, hs, hl, hz, hi⟩ := h
  refine (nf11 y.a0 y.a1 y.b0 y.b1 y.f y.s y.l y.z y.i K).trans ?_
  have e16 : BitVec.ofInt 8 16 = 16#8 := rfl
  have z8 : (0 : BitVec 8) = 0#8 := rfl
  simp only [e16, z8, Int.toNat_natCast, hf, hs, hl, hz, List.length_set, List.set_set, Nat.mul_one, Nat.zero_add]
  unfold go11
  by_cases h : y.i < 16
  · have h1 : (y.i : Int) < 16 := by omega
    have h2 : (0 : Int) ≤ (y.i : Int) := by omega
    have hw : IntKind.i64.wrap ((y.i : Int) + 1) = ((y.i + 1 : Nat) : Int) := by rw [wrap_i64 (by omega) (by omega)]; rfl
    simp only [h, h1, h2, decide_true, if_true, and_self, hw]
    by_cases h3 : y.z.getD y.i 0#8 < 16#8
    · simp only [h3, decide_true, if_true, next11, lv]
      rfl
    · simp only [h3, decide_false, if_false, Bool.false_eq_true, next11, lv]
      rfl
  · have h1 : ¬ (y.i : Int) < 16 := by omega
    simp only [h, h1, decide_false, Bool.false_eq_true, if_false]
    rfl
theorem inv11 (y : X11) (h : I11 y) (hg : go11 y = true) : I11 (next11 y) := by
  obtain ⟨hf, hs, hl, hz, hi⟩ := h
  have hg : y.i < 16 := of_decide_eq_true hg
  exact ⟨by simpa [next11] using hf, by simpa [next11] using hs, by simpa [next11] using hl, hz, by show y.i + 1 ≤ 16; omega⟩
theorem m11 (y : X11) (h : go11 y = true) : 16 - y.i = 16 - (next11 y).i + 1 := by
  have hg : y.i < 16 := of_decide_eq_true h
  show 16 - y.i = 16 - (y.i + 1) + 1
  omega
noncomputable abbrev sum11 : LoopF := sumG keep11 parse11 (fun _ => false) .ret (fun y => Y11 y) (.exit 0) (fun y => Y11 y) (fun y => iter (go11) (next11) ((fun y => 16 - y.i) y) y)
theorem sem11 : SemOK Tryd.prog G0 c11 sum11 := by
  refine SemOK.count (sp := tabOf []) (ann := fun _ => []) (ls := fun _ => none) TableOK.nil mixed 50 LsOK.none Y11 _ _ (by simp [Ex.out]) _ _ (by simp [Ex.out]) _ keep11 parse11 (go11) (next11) I11 inv11 body11 (fun y => 16 - y.i) m11 ?_
  intro st y hx
  unfold parse11 at hx
  split at hx
  · rename_i t a0 a1 b0 b1 f s l z
    split at hx
    · rename_i i h2 h3 h5 h6 h7 h8 h9
      simp only [Option.some.injEq, Prod.mk.injEq, decide_eq_true_eq] at hx
      obtain ⟨⟨g1, g2⟩, rfl⟩ := hx
      refine ⟨g2, fun w0 L' a w hrel => ?_⟩
      exact Rel.pick hrel g1 fun x hx => by
        simp only [List.mem_cons, List.not_mem_nil, or_false] at hx
        rcases hx with rfl | rfl | rfl | rfl | rfl | rfl | rfl
        · exact h2
        · exact h3
        · exact h5
        · exact h6
        · exact h7
        · exact h8
        · exact h9
    · cases hx
  · cases hx
noncomputable def ls11 : Nat → Option LoopF := lsOf [(4, sum11)]
theorem loops11 : LsOK Tryd.prog G0 ls11 (Tryd.f11.body.getD .skip) := by
  refine LsOK.of (of_decide_eq_true (by kernel_rfl)) fun x hx => ?_
  simp only [List.mem_cons, List.not_mem_nil, or_false] at hx
  subst hx
  exact sem11
theorem run11 (k : Nat) : ∀ y : X11, (run next11 k y).i = y.i + k := by
  induction k with
  | zero => intro y; rfl
  | succ k ih => intro y; rw [run, ih (next11 y)]; show y.i + 1 + k = _; omega
theorem fin11 (y : X11) (h0 : y.i = 0) : iter go11 next11 (16 - y.i) y = run next11 16 y := by
  rw [h0]
  refine iter_run _ _ fun k hk => ?_
  simp only [go11, run11, h0, Nat.zero_add, decide_eq_true_eq]
  exact hk
def fst16 : List (BitVec 8) := [0#8, 1#8, 2#8, 3#8, 4#8, 5#8, 6#8, 7#8, 8#8, 9#8, 10#8, 11#8, 12#8, 13#8, 14#8, 15#8]
def snd16 : List (BitVec 8) := [16#8, 17#8, 18#8, 19#8, 20#8, 21#8, 22#8, 23#8, 24#8, 25#8, 26#8, 27#8, 28#8, 29#8, 30#8, 31#8]
def lv16 (l : List (BitVec 8)) : List (BitVec 8) := [lv (l.getD 0 0#8), lv (l.getD 1 0#8), lv (l.getD 2 0#8), lv (l.getD 3 0#8), lv (l.getD 4 0#8), lv (l.getD 5 0#8), lv (l.getD 6 0#8), lv (l.getD 7 0#8), lv (l.getD 8 0#8), lv (l.getD 9 0#8), lv (l.getD 10 0#8), lv (l.getD 11 0#8), lv (l.getD 12 0#8), lv (l.getD 13 0#8), lv (l.getD 14 0#8), lv (l.getD 15 0#8)]
theorem res11 (a0 a1 b0 b1 : BitVec 64) (l : List (BitVec 8)) : run next11 16 ⟨a0, a1, b0, b1, [0#8, 0#8, 0#8, 0#8, 0#8, 0#8, 0#8, 0#8, 0#8, 0#8, 0#8, 0#8, 0#8, 0#8, 0#8, 0#8], [0#8, 0#8, 0#8, 0#8, 0#8, 0#8, 0#8, 0#8, 0#8, 0#8, 0#8, 0#8, 0#8, 0#8, 0#8, 0#8], [0#8, 0#8, 0#8, 0#8, 0#8, 0#8, 0#8, 0#8, 0#8, 0#8, 0#8, 0#8, 0#8, 0#8, 0#8, 0#8], l, 0⟩ = ⟨a0, a1, b0, b1, fst16, snd16, lv16 l, l, 16⟩ := by kernel_rfl
theorem law11 (a0 a1 b0 b1 : BitVec 64) : execFnL Tryd.prog G0 (tabOf [(36, ShufS), (38, SwizS), (24, bytesS), (17, worksS)]) (fun _ => []) ls11 Tryd.f11 50 [vec a0 a1, vec b0 b1] some =
  if (errF (okSh (lv16 (bytesF b0 b1))) == 0) = true then
    if (ifF (okSh fst16) (shLo a0 a1 b0 b1 fst16) == a0 && ifF (okSh fst16) (shHi a0 a1 b0 b1 fst16) == a1) = true then
      if (ifF (okSh snd16) (shLo a0 a1 b0 b1 snd16) == b0 && ifF (okSh snd16) (shHi a0 a1 b0 b1 snd16) == b1) = true then
        if (ifF (okSh (lv16 (bytesF b0 b1))) (shLo a0 a1 0#64 0#64 (lv16 (bytesF b0 b1))) == sqLo a0 a1 (bytesF b0 b1) && ifF (okSh (lv16 (bytesF b0 b1))) (shHi a0 a1 0#64 0#64 (lv16 (bytesF b0 b1))) == sqHi a0 a1 (bytesF b0 b1)) = true then some (.bool true)
        else some (.bool false)
      else some (.bool false)
    else some (.bool false)
  else some (.bool false) := by kernel_rfl
theorem lv_lt (c : BitVec 8) : lv c < 32#8 := by
  unfold lv
  split
  · rename_i h; exact lt16_32 h
  · decide
theorem ok_lv16 (l : List (BitVec 8)) : okSh (lv16 l) = true := by
  simp only [okSh, lv16, List.all_cons, List.all_nil, lv_lt, decide_true, Bool.and_self]
theorem ok_fst : okSh fst16 = true := by decide
theorem ok_snd : okSh snd16 = true := by decide
theorem pk_lv (a0 a1 : BitVec 64) (c : BitVec 8) : pk a0 a1 0#64 0#64 (lv c) = qk a0 a1 c := by
  unfold qk lv
  by_cases h : c < 16#8
  · rw [if_pos h, if_pos h]; simp only [pk, h, if_true]
  · rw [if_neg h, if_neg h]
    unfold pk
    rw [if_neg (by decide)]
    decide
theorem sh_fst (a0 a1 b0 b1 : BitVec 64) : shLo a0 a1 b0 b1 fst16 = a0 ∧ shHi a0 a1 b0 b1 fst16 = a1 := by
  have e : ∀ x : BitVec 64, w8 (bt (x >>> 0 &&& maskF 8) 0) (bt (x >>> 8 &&& maskF 8) 0) (bt (x >>> 16 &&& maskF 8) 0) (bt (x >>> 24 &&& maskF 8) 0) (bt (x >>> 32 &&& maskF 8) 0) (bt (x >>> 40 &&& maskF 8) 0) (bt (x >>> 48 &&& maskF 8) 0) (bt (x >>> 56 &&& maskF 8) 0) = x := fun x => route (ρ := at3 x 0#64 0#64) (by kernel_rfl)
  exact ⟨Eq.trans (by kernel_rfl) (e a0), Eq.trans (by kernel_rfl) (e a1)⟩
theorem sh_snd (a0 a1 b0 b1 : BitVec 64) : shLo a0 a1 b0 b1 snd16 = b0 ∧ shHi a0 a1 b0 b1 snd16 = b1 := by
  have e : ∀ x : BitVec 64, w8 (bt (x >>> 0 &&& maskF 8) 0) (bt (x >>> 8 &&& maskF 8) 0) (bt (x >>> 16 &&& maskF 8) 0) (bt (x >>> 24 &&& maskF 8) 0) (bt (x >>> 32 &&& maskF 8) 0) (bt (x >>> 40 &&& maskF 8) 0) (bt (x >>> 48 &&& maskF 8) 0) (bt (x >>> 56 &&& maskF 8) 0) = x := fun x => route (ρ := at3 x 0#64 0#64) (by kernel_rfl)
  exact ⟨Eq.trans (by kernel_rfl) (e b0), Eq.trans (by kernel_rfl) (e b1)⟩
theorem sh_lv (a0 a1 : BitVec 64) (l : List (BitVec 8)) : shLo a0 a1 0#64 0#64 (lv16 l) = sqLo a0 a1 l ∧ shHi a0 a1 0#64 0#64 (lv16 l) = sqHi a0 a1 l := by
  have h : ∀ k, k < 16 → sh0 a0 a1 0#64 0#64 (lv16 l) k = sq0 a0 a1 l k := fun k hk => by
    have e : (lv16 l).getD k 0#8 = lv (l.getD k 0#8) := by
      have : k = 0 ∨ k = 1 ∨ k = 2 ∨ k = 3 ∨ k = 4 ∨ k = 5 ∨ k = 6 ∨ k = 7 ∨ k = 8 ∨ k = 9 ∨ k = 10 ∨ k = 11 ∨ k = 12 ∨ k = 13 ∨ k = 14 ∨ k = 15 := by omega
      rcases this with rfl | rfl | rfl | rfl | rfl | rfl | rfl | rfl | rfl | rfl | rfl | rfl | rfl | rfl | rfl | rfl <;> rfl
    unfold sh0 sq0
    rw [e, pk_lv]
  constructor
  · unfold shLo sqLo
    rw [h 0 (by decide), h 1 (by decide), h 2 (by decide), h 3 (by decide), h 4 (by decide), h 5 (by decide), h 6 (by decide), h 7 (by decide)]
  · unfold shHi sqHi
    rw [h 8 (by decide), h 9 (by decide), h 10 (by decide), h 11 (by decide), h 12 (by decide), h 13 (by decide), h 14 (by decide), h 15 (by decide)]
theorem shuffles11 : Snd 11 (trueS fun | [.agg [.u64 _, .u64 _], .agg [.u64 _, .u64 _]] => true | _ => false) := by
  refine Sound.guard (execFnL_sound (ann := fun _ => []) (ls := ls11) (TableOK.cons Shuf36 (TableOK.cons Swiz38 (TableOK.cons bytes24 (TableOK.cons works17 TableOK.nil)))) mixed Tryd.func11 (by kernel_rfl) 50 (fun c hc => by
    have e : c = Tryd.f11.body.getD .skip := by rw [hc]; rfl
    rw [e]; exact loops11)) fun ds d h => ?_
  simp only [Option.some.injEq, Prod.mk.injEq] at h
  obtain ⟨h, rfl⟩ := h
  split at h
  · rename_i a0 a1 b0 b1
    refine (law11 a0 a1 b0 b1).trans ?_
    rw [ok_lv16, ok_fst, ok_snd, (sh_fst a0 a1 b0 b1).1, (sh_fst a0 a1 b0 b1).2, (sh_snd a0 a1 b0 b1).1, (sh_snd a0 a1 b0 b1).2, (sh_lv a0 a1 _).1, (sh_lv a0 a1 _).2]
    simp [ifF, errF]
  · cases h
end Go.L06

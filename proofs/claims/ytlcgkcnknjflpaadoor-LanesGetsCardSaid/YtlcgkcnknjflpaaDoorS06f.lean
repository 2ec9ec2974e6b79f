/-
  Part of the proof; what its functions and lemmas say stands in the text.
-/
import Derived.Test.YtlcgkcnknjflpaaDoorS06e
import Derived.Test.YtlcgkcnknjflpaaDoorEv22
import Derived.Test.YtlcgkcnknjflpaaDoorRows
import Derived.Test.YtlcgkcnknjflpaaDoorTie
import Derived.Test.YtlcgkcnknjflpaaDoorCards
set_option linter.unusedSimpArgs false
set_option linter.unusedVariables false
/-!
Chapter 06: rows.
-/
namespace Go.L06
open Go.Ev Go.Proofs Go.RowKit Go.ChangeShapes Go.WideShapes Go.ChangeAt
open Go.Proofs.YtlcgkcnknjflpaaDoor (Rows.laid_jacquard_ints_widths Rows.laid_math_bits_deBruijn64tab)

theorem own : ownKnob Tryd.prog.godebug = none := by kernel_rfl
theorem laidOut : laidOutB Tryd.prog = true := by kernel_rfl
theorem gWidths : Tryd.prog.globalNamed "jacquard/ints.widths" = some 0 := by kernel_rfl
theorem tWidths : (Tryd.prog.globals[0]?).map (·.type) = some 71 := by kernel_rfl
abbrev laid2 : List (String × DataW Unit) := [("math/bits.deBruijn64tab", Rows.laid_math_bits_deBruijn64tab), ("jacquard/ints.widths", Rows.laid_jacquard_ints_widths)]

theorem glob_of_laid {W : World} (h : laidMetH Tryd.prog laid2 W) : Glob G0 W := by
  rw [MakeChecks.laidMetH_plain _ _ _ (by kernel_rfl)] at h
  obtain ⟨ps, ⟨g0, t0, cs0, f0, p0, q0, _, _, _, _, ⟨g1, t1, cs1, f1, p1, q1, hg1, ht1, hv1, hd1, _, _⟩, _⟩, _, _⟩ := h
  obtain rfl := Option.some.inj (gWidths.symm.trans hg1)
  obtain rfl := Option.some.inj (tWidths.symm.trans ht1)
  have cells := ints_of_trod (l := [8, 16, 32, 64]) Tryd.underlying71 Tryd.underlying3 (by kernel_rfl) hd1
  have at0 : ∀ j, j < 4 → W.cell? ⟨0, j, none⟩ = some (.int .i64 (([8, 16, 32, 64] : List Int).getD j 0)) := fun j hj => by
    have h1 := World.var?_cell hg1 hv1 j
    rw [h1, ← Array.getElem?_toList]
    exact cells j hj
  intro g c hgc
  simp only [G0, List.mem_cons, List.not_mem_nil, or_false, Prod.mk.injEq] at hgc
  obtain ⟨rfl, rfl⟩ := hgc
  refine ⟨?_, fun j hj => ⟨_, at0 j (by simpa [SV.len] using hj), by simp only [SV.cell, rep]⟩⟩
  have h0 := at0 0 (by decide)
  unfold World.cell? at h0
  rcases Nat.lt_or_ge 0 W.heap.size with h | h
  · exact h
  · rw [Array.getElem?_eq_none (by simpa using h)] at h0; simp at h0

/-! Arguments -/
section
variable {H : Type} {enc : TypeId × Value → H} {W : World} {base b0 : Nat} {spare : Nat → Bool} {held : Bool} {r : Reach} {own : Option Nat} {v : Value} {d : DataW H} {p : List MemPlace}
theorem a_vec (hv : Value.okWide Tryd.prog W r b0 24 v) (h : DataW.Trod enc Tryd.prog W base spare held 24 v d p) : ∃ x y : BitVec 64, lies own W (vec x y) v :=
  arg_vec Tryd.underlying24 (by kernel_rfl) (by kernel_rfl) Tryd.underlying22 Tryd.underlying22 hv h
end

/-- A law that answers 'true' at these arguments. -/
noncomputable def trueS (ok : List D → Bool) : Ev.Spec := guarded fun ds => some (ok ds, .bool true)
theorem call_true {f : Nat} {ok : List D → Bool} (hs : Snd f (trueS ok)) {ds : List D} {w : World} {args : List Value} (hok : ok ds = true) (hG : Glob G0 w) (hl : lie none w ds args)
    (hcall : (callFunc f ⟨args⟩).run Tryd.prog w = .ok (.enter f ⟨args⟩) w) : Calls Tryd.prog f ⟨args⟩ w fun e w' => e = .returned (.bool true) ∧ Below w.heap.size w w' := by
  obtain ⟨d, hd, hgo⟩ := hs ds some (.bool true) (by simp [trueS, guarded, hok])
  cases hd
  rcases hgo w args hG hl with ⟨v, w', h1, _⟩ | ⟨_, h2⟩
  · rw [hcall] at h1; cases h1
  · exact Calls.mono h2 fun e w' ⟨v, he, hb, hv⟩ => by
      simp only [lies] at hv
      subst hv
      exact ⟨he, hb⟩

/-! LanesGets -/
theorem gets3 : Snd 3 (trueS fun | [.agg [.u64 _, .u64 _], .i .i64 _, .i .i64 _, .u64 _] => true | _ => false) := by
  refine Sound.guard (execFn_sound (ann := fun _ => []) (TableOK.cons Get13 (TableOK.cons Get14 (TableOK.cons Set15 (TableOK.cons Set16 (TableOK.cons works17 TableOK.nil))))) mixed Tryd.func3 (by kernel_rfl) 50) fun ds d h => ?_
  simp only [Option.some.injEq, Prod.mk.injEq] at h
  obtain ⟨h, rfl⟩ := h
  split at h
  · rename_i x y t i z
    have nf : ex [(13,GetS), (14,GetS), (15, SetS), (16, SetS), (17, worksS)] (fun _ => []) Tryd.f3 [vec x y, .i .i64 t, .i .i64 i, .u64 z] some =
      if (ifF (okI t i) (getF x y t i) == ifF (okI t i) (getF x y t i)) = true then
        if (errF (okI t i) == errF (okI t i)) = true then
          if
              (ifF (okS t i z) (setF x y t i z).fst == ifF (okS t i z) (setF x y t i z).fst &&
                  ifF (okS t i z) (setF x y t i z).snd == ifF (okS t i z) (setF x y t i z).snd) =
                true then
            if (errF (okS t i z) == errF (okS t i z)) = true then some (D.bool true) else some (D.bool false)
          else some (D.bool false)
        else some (D.bool false)
      else some (D.bool false) := by kernel_rfl
    refine nf.trans ?_
    simp
  · cases h
end Go.L06
namespace Go.Proofs.YtlcgkcnknjflpaaDoor.lanesGets
open Go Go.L06 Go.Ev Go.RowKit Go.ChangeShapes Go.WideShapes Go.ChangeAt
set_option maxRecDepth 100000 in
theorem lifted (os : Os) (started : os.Started) (H : Type) (enc : TypeId × Value → H) :
    ReturnsInHanded {} Tryd.checked os 3 .any (fun w args => (Rows.lanesGetsSpec.pre enc Tryd.prog Tryd.f3 [] false w args ∧ laidMetH Tryd.prog laid2 w) ∧ sizedMet enc Tryd.prog Tryd.f3 (OpenSpec.ofChange Rows.lanesGetsSpec) false w args)
      (Rows.lanesGetsSpec.post enc Tryd.prog Tryd.f3 false true false false) := by
  refine returnsInHanded_of_change_and (C := Tryd.checked) (X := fun w _ => laidMetH Tryd.prog laid2 w) (fun _ _ _ hh h => h.of_heap hh) own started (by kernel_rfl) Tryd.func3
    (ChangeSpec.witness_shaped (enc := enc) (C := Tryd.checked) (os := os) (X := fun w _ => laidMetH Tryd.prog laid2 w) false (World.doorLaid Tryd.prog 19 os) #[.agg #[.int .u64 0, .int .u64 0], .int .i64 0, .int .i64 0, .int .u64 0] 8 rfl (World.shaped_of_RefB (by kernel_rfl) (by kernel_rfl)) (by kernel_rfl) (by kernel_rfl) (by kernel_rfl)
      (laidMetH_of_parts3 (fuel := 8) (laidMet_of_run' 65 (by kernel_rfl) (by kernel_rfl)) (by kernel_rfl) (by kernel_rfl))) ?_
  intro W base args ds gs before hval0 hW _ _ hL _
  have hval : ∀ (j : Nat) t v, Tryd.f3.params[j]? = some t → args[j]? = some v → Value.okWide Tryd.prog W .any base t v := hval0
  have hW' := hW
  obtain ⟨p, q, hA0, hV, rfl, hfz, hnd⟩ := hW
  have hA : DataW.TrodAll enc Tryd.prog W 0 (fun _ => true) true Tryd.f3.params.toList args.toList ds p := hA0
  rw [Tryd.params3] at hA hval
  obtain ⟨v0, v1, v2, v3, d0, d1, d2, d3, p0, p1, p2, p3, rfl, rfl, rfl, h0, h1, h2, h3⟩ := trodAll_four hA
  obtain ⟨x, y, l0⟩ := a_vec (own := none) (hval 0 24 v0 rfl rfl) h0
  obtain ⟨n1, l1, _⟩ := arg_i64 (own := none) Tryd.underlying3 (hval 1 3 v1 rfl rfl) h1
  obtain ⟨n2, l2, _⟩ := arg_i64 (own := none) Tryd.underlying3 (hval 2 3 v2 rfl rfl) h2
  obtain ⟨x3, l3⟩ := arg_u64 (own := none) Tryd.underlying22 (hval 3 22 v3 rfl rfl) h3
  refine (call_true gets3 (ds := [vec x y, .i .i64 n1, .i .i64 n2, .u64 x3]) rfl (glob_of_laid hL) (by simp only [lie]; exact ⟨_, _, rfl, l0, _, _, rfl, l1, _, _, rfl, l2, _, _, rfl, l3, rfl⟩) (by kernel_rfl)).mono fun e W' ⟨he, hb⟩ => ?_
  subst he
  exact ⟨_, rfl, post_law hW' hb laidOut (by kernel_rfl) rfl (by kernel_rfl) Tryd.underlying4 rfl⟩

theorem holds : Rows.LanesGetsSaid :=
  OpenClaim.holds_of_wide 3 Tryd.f3 rfl rfl rfl rfl rfl rfl rfl ⟨rfl, rfl, rfl, rfl, rfl⟩ rfl rfl rfl rfl rfl (by kernel_rfl) Tryd.func3 (by kernel_rfl)
    (of_decide_eq_true (by kernel_rfl)) (by unfold Func.isWrapper; first | (rw [if_pos (by decide +kernel)]; kernel_rfl) | (rw [if_neg (by decide +kernel)]; exact ⟨rfl, rfl⟩))
    (fun os started H enc _ => lifted os started H enc)
end Go.Proofs.YtlcgkcnknjflpaaDoor.lanesGets

/-
  PROVED HERE: the tied card of PlainEnds, for every input: a plain instruction of values that it takes, with a lane that there is, answers a value of the type that it leaves, or traps; only dividing and cutting trap. No conditions beyond the card's own.
-/
import Derived.Test.YtnbafdmlfpmfkaaGreatDoorS23w
import Derived.Test.YtnbafdmlfpmfkaaGreatDoorS23r
import Derived.Test.YtnbafdmlfpmfkaaGreatDoorN23Q
import Derived.SevenTiedAt
import Derived.HandedShaped
import Derived.Shelf.Vars
set_option linter.unusedSimpArgs false
set_option linter.unusedVariables false
set_option maxRecDepth 100000
namespace Go.L23
open Go.Ev Go.Proofs Go.RowKit Go.Wh Go.ChangeShapes Go.WideShapes
theorem handed_and_shaped {H : Type} {enc : TypeId × Value → H} {a : Assume} {C : Checked} {os : Os} {f : FuncId} {fn : Func} {s : ChangeSpec} {conds : List PathCond} {apart fresh handsOn again : Bool} {X : World → Array Value → Prop}
  (hX : ∀ (w w' : World) (args : Array Value), w.heap = w'.heap → X w args → X w' args)
  (own : ownKnob C.prog.godebug = none) (started : os.Started) (noInit : C.prog.inits.idxOf? f = none) (hfn : C.prog.funcs[f]? = some fn)
  (witness : ∃ (w : World) (tape : Tape) (i : Input), w.os = os ∧ (w.forCall tape i).Shaped C.prog ∧ i.vars = [] ∧ Input.okWide C.prog (w.forCall tape i) .any w.heap.size f i ∧
   ((s.pre enc C.prog fn conds apart (w.forCall tape i).memory i.args ∧ X (w.forCall tape i).memory i.args) ∧ sizedMet enc C.prog fn (OpenSpec.ofChange s) apart (w.forCall tape i).memory i.args) ∧ a.holds C.prog (lone (Frame.enter C.prog f i.args .normal) [] (w.forCall tape i)))
  (key : ∀ (W : World) (base : Nat) (args : Array Value) (ds gs : List (DataW H)) (before : List MemPlace),
   (∀ (j : Nat) t v, fn.params[j]? = some t → args[j]? = some v → Value.okWide C.prog W .any base t v) →
   DataW.Whole enc C.prog fn.params.toList s.vars apart W args.toList ds gs before →
   conds.all (PathCond.test C.prog ⟨fn.params.toList, ds, s.plain.varTypes C.prog, gs⟩) = true →
   (DataW.weightsEach C.prog (fn.params.toList ++ s.plain.varTypes C.prog) (ds ++ gs)).all (· ≤ reachBytes) = true → X W args → W.ShapedOpen C.prog →
   a.holds C.prog (lone (Frame.enter C.prog f args .normal) [] W) →
   Calls C.prog f args W fun e W' => ∃ v, e = .returned v ∧ s.post enc C.prog fn apart fresh handsOn again W args v W') :
  ReturnsInHanded a C os f .any (fun w args => (s.pre enc C.prog fn conds apart w args ∧ X w args) ∧ sizedMet enc C.prog fn (OpenSpec.ofChange s) apart w args) (s.post enc C.prog fn apart fresh handsOn again) := by
 refine returnsInHanded_of_calls own started noInit witness fun w tape i _ hsh _ hok hpre hholds => ?_
 obtain ⟨_, _, _, fn', hfn', _, _, _, _, hval⟩ := hok
 obtain rfl : fn' = fn := Option.some.inj (hfn'.symm.trans hfn)
 obtain ⟨⟨⟨ds, gs, before, hw, hc⟩, hx⟩, hz⟩ := hpre
 have h1 := DataW.Whole.of_heap (w' := w.forCall tape i) (by rfl) hw
 refine (key (w.forCall tape i) w.heap.size i.args ds gs before hval h1 hc (hz.weights hw) (hX _ _ _ (by rfl) hx) hsh hholds).mono fun e W' ⟨v, he, hp⟩ => ?_
 subst he
 exact ChangeSpec.post_blind hp
theorem u32_of_wf {n : Int} (h : (Lit.int .u32 n).wf = true) : ∃ x : BitVec 32, n = (x.toNat : Int) := by
 simp only [Lit.wf, Bool.and_eq_true, decide_eq_true_eq] at h
 have h1 : (0 : Int) ≤ n := h.1
 have h2 : n ≤ 4294967295 := h.2
 refine ⟨BitVec.ofNat 32 n.toNat, ?_⟩
 rw [BitVec.toNat_ofNat, Nat.mod_eq_of_lt (by omega)]
 omega
theorem a_u32 {H : Type} {enc : TypeId × Value → H} {P : Program} {W : World} {base b0 : Nat} {spare : Nat → Bool} {held : Bool} {r : Reach} {own : Option Nat} {v : Value} {d : DataW H} {p : List MemPlace} {t : TypeId}
  (ht : P.underlying t = some (.int .u32)) (hv : Value.okWide P W r b0 t v) (h : DataW.Trod enc P W base spare held t v d p) : ∃ x : BitVec 32, lies own W (.u32 x) v := by
 obtain ⟨n, rfl, _, _, hw⟩ := open_int ht hv h
 obtain ⟨x, rfl⟩ := u32_of_wf hw
 exact ⟨x, by simp only [lies]⟩
theorem call_pt {G : List (Nat × SV)} {f : Nat} {ds : List D} {w : World} {args : List Value} (hp : Pt Tryz.prog G f ds (.bool true)) (hG : Glob G w) (hl : lie none w ds args)
  (hcall : (callFunc f ⟨args⟩).run Tryz.prog w = .ok (.enter f ⟨args⟩) w) : Calls Tryz.prog f ⟨args⟩ w fun e w' => e = .returned (.bool true) ∧ Below w.heap.size w w' := by
 rcases hp w args hG hl with ⟨v, w', h1, _⟩ | ⟨_, h2⟩
 ·rw [hcall] at h1; cases h1
 ·exact Calls.mono h2 fun e w' ⟨v, he, hb, hv⟩ => by
   simp only [lies] at hv
   subst hv
   exact ⟨he, hb⟩
theorem glob_m {m : Int} {W : World} (hm : W.cell? ⟨10, 0, none⟩ = some (.int .i64 m)) (h : Glob G0 W) : Glob (G1 m) W := fun g c hc => by
 rcases List.mem_cons.1 hc with h1 | h1
 ·cases h1
  refine ⟨glob_size hm, fun j hj => ?_⟩
  have hj0 : j = 0 := by
   simp only [SV.len, List.length_cons, List.length_nil] at hj
   omega
  subst hj0
  exact ⟨_, hm, by simp only [SV.cell, List.getD_cons_zero, rep]⟩
 ·exact h g c h1
end Go.L23
namespace Go.Proofs.YtnbafdmlfpmfkaaGreatDoor.plainEnds
open Go Go.L23 Go.Ev Go.RowKit Go.ChangeShapes Go.WideShapes Go.ChangeAt
set_option maxRecDepth 100000 in
theorem lifted (os : Os) (started : os.Started) (H : Type) (enc : TypeId × Value → H) :
  ReturnsInHanded {} Tryz.checked os 6 .any (fun w args => (Rows.plainEndsSpec.pre enc Tryz.prog Tryz.f6 [] false w args ∧ laidMetH Tryz.prog laid2 w) ∧ sizedMet enc Tryz.prog Tryz.f6 (OpenSpec.ofChange Rows.plainEndsSpec) false w args)
   (Rows.plainEndsSpec.post enc Tryz.prog Tryz.f6 false true false false) := by
 refine handed_and_shaped (C := Tryz.checked) (X := fun w _ => laidMetH Tryz.prog laid2 w) (fun _ _ _ hh h => h.of_heap hh) own started (by kernel_rfl) Tryz.func6
  (ChangeSpec.witness_shaped (enc := enc) (C := Tryz.checked) (os := os) (X := fun w _ => laidMetH Tryz.prog laid2 w) false (World.laidAll Tryz.prog os laid2) #[.int .u16 0, .int .u8 0, .agg #[.int .u8 0, .int .u8 0, .int .u8 0, .int .u8 0, .int .u8 0, .int .u8 0, .int .u8 0, .int .u8 0, .int .u8 0, .int .u8 0, .int .u8 0, .int .u8 0, .int .u8 0, .int .u8 0, .int .u8 0, .int .u8 0], .int .u32 0, .slice none 0 0] 8 rfl (lay_shaped os) (by kernel_rfl) (by kernel_rfl) (by kernel_rfl)
   (lay_met os _)) ?_
 intro W base args ds gs before hval0 hW _ hwt hL hsh hsz
 have hval : ∀ (j : Nat) t v, Tryz.f6.params[j]? = some t → args[j]? = some v → Value.okWide Tryz.prog W .any base t v := hval0
 have hW' := hW
 obtain ⟨p, q, hA0, hV, rfl, hfz, hnd⟩ := hW
 have hA : DataW.TrodAll enc Tryz.prog W 0 (fun _ => true) true Tryz.f6.params.toList args.toList ds p := hA0
 rw [Tryz.params6] at hA hval
 obtain ⟨v0, vs0, d0, ds0, p0, q0, hargs, rfl, rfl, h0, r0⟩ := trodAll_cons hA
 obtain ⟨v1, vs1, d1, ds1, p1, q1, rfl, rfl, rfl, h1, r1⟩ := trodAll_cons r0
 obtain ⟨v2, vs2, d2, ds2, p2, q2, rfl, rfl, rfl, h2, r2⟩ := trodAll_cons r1
 obtain ⟨v3, vs3, d3, ds3, p3, q3, rfl, rfl, rfl, h3, r3⟩ := trodAll_cons r2
 obtain ⟨v4, vs4, d4, ds4, p4, q4, rfl, rfl, rfl, h4, r4⟩ := trodAll_cons r3
 obtain ⟨rfl, rfl, rfl⟩ := trodAll_nil r4
 obtain rfl : args = #[v0, v1, v2, v3, v4] := by cases args; simp_all
 obtain ⟨o, l0⟩ := a_u16 (own := none) Tryz.underlying23 (hval 0 23 v0 rfl rfl) h0
 obtain ⟨l, l1⟩ := arg_u8 (own := none) Tryz.underlying5 (hval 1 5 v1 rfl rfl) h1
 obtain ⟨bs, z2, l2⟩ := arg_u8s (own := none) Tryz.underlying47 Tryz.underlying5 (by kernel_rfl) (by kernel_rfl) (hval 2 47 v2 rfl rfl) h2
 obtain ⟨n32, l3⟩ := a_u32 (own := none) Tryz.underlying46 (hval 3 46 v3 rfl rfl) h3
 have hh : Handed W v4 := arg_slvec Tryz.underlying57 Tryz.underlying26 (by kernel_rfl) rfl rfl (by kernel_rfl) (by kernel_rfl) Tryz.underlying24 Tryz.underlying24 (hval 4 57 v4 rfl rfl) h4
 obtain ⟨m, hm⟩ := cell_of_shapedOpen_int (P := Tryz.prog) (g := 10) (t := 3) (zero := #[.int .i64 0]) hsh (of_decide_eq_true (by kernel_rfl)) (by kernel_rfl) rfl (by kernel_rfl) (by kernel_rfl) Tryz.underlying3
 match bs, z2 with
 | [b0, b1, b2, b3, b4, b5, b6, b7, b8, b9, b10, b11, b12, b13, b14, b15], _ =>
  obtain ⟨G, hG, hp⟩ := ends_pt m hh o l b0 b1 b2 b3 b4 b5 b6 b7 b8 b9 b10 b11 b12 b13 b14 b15 n32
  refine (call_pt hp (hG (glob_m hm (glob_of_laid hL))) (by simp only [lie]; exact ⟨_, _, rfl, l0, _, _, rfl, l1, _, _, rfl, l2, _, _, rfl, l3, _, _, rfl, by simp only [lies], rfl⟩) (by kernel_rfl)).mono fun e W' ⟨he, hb⟩ => ?_
  subst he
  exact ⟨_, rfl, post_law hW' hb laidOut (by kernel_rfl) rfl (by kernel_rfl) Tryz.underlying4 rfl⟩
theorem k_named : Tryz.prog.funcNamed "jacquard/jacquardlaw23.PlainEnds" = some 6 := by kernel_rfl
set_option maxHeartbeats 0 in
theorem k_closed : joinedFacts Tryz.prog 6 Tryz.f6 Rows.plainEndsSpec Rows.plainEndsRow = true := by
 unfold joinedFacts
 refine andI (andI (andI (andI (andI (andI (andI (andI (andI (andI (andI (andI (andI (andI (andI (andI (andI (andI (andI (andI (andI (andI (andI (andI (andI (andI (andI (andI (andI (andI (andI ?_ ?_) ?_) ?_) ?_) ?_) ?_) ?_) ?_) ?_) ?_) ?_) ?_) ?_) ?_) ?_) ?_) ?_) ?_) ?_) ?_) ?_) ?_) ?_) ?_) ?_) ?_) ?_) ?_) ?_) ?_) ?_
 all_goals (as_aux_lemma => kernel_rfl)
set_option maxHeartbeats 0 in
theorem holds : Rows.PlainEndsSaid :=
 OpenClaim.holds_of_wide 6 Tryz.f6 rfl rfl rfl rfl rfl rfl rfl ⟨rfl, rfl, rfl, rfl, rfl⟩ rfl rfl rfl rfl rfl k_named Tryz.func6 k_closed
  (of_decide_eq_true (by as_aux_lemma => kernel_rfl)) (by unfold Func.isWrapper; first | (rw [if_pos (by decide +kernel)]; kernel_rfl) | (rw [if_neg (by decide +kernel)]; exact ⟨rfl, rfl⟩))
  (fun os started H enc _ => lifted os started H enc)
end Go.Proofs.YtnbafdmlfpmfkaaGreatDoor.plainEnds
namespace Go.Proofs.YtnbafdmlfpmfkaaGreatDoor
open Go Go.L23
set_option maxHeartbeats 0 in
theorem plainEndsCard_holds : Rows.PlainEndsCardSaid :=
 Claim7.holds_tied_plain_at .later [] [.data, .data, .data, .listed, .data, .data, .data, .data, .data, .data, .data, .data, .pinned] true (true, "8a0ec0e2d0c8395f9c70730a87ba2427364a143c9bc067253e316568675d628e") false
  plainEnds.holds (fun _ h => by cases h) (by as_aux_lemma => kernel_rfl) (fun _ h => by cases h) plainEnds_row_tie rfl ⟨rfl, rfl⟩ mainIs rfl
  (fun f fn hf hfn => by
   obtain rfl : f = 6 := Option.some.inj (plainEnds.k_named.symm.trans hf) |>.symm
   obtain rfl : fn = Tryz.f6 := (Option.some.inj (Tryz.func6.symm.trans hfn)).symm
   exact ⟨looks0, fun j t ht => by
    rw [Tryz.params6] at ht
    have hm : t ∈ [23, 5, 47, 46, 57] := by simpa using Array.mem_of_getElem? ht
    have hall : ([23, 5, 47, 46, 57].all fun u => !Tryz.prog.wantsStandIn u) = true := by kernel_rfl
    exact (show Tryz.prog.wantsStandIn t = false by simpa using List.all_eq_true.1 hall t hm)⟩)
  (by as_aux_lemma => kernel_rfl)
#print axioms plainEndsCard_holds
end Go.Proofs.YtnbafdmlfpmfkaaGreatDoor

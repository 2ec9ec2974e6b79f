/-
  Part of the proof; what its functions and lemmas say stands in the text.
-/
import Derived.Test.YtnbafdmlfpmfkaaGreatDoorS23A
import Derived.Test.YtnbafdmlfpmfkaaGreatDoorEvE
import Derived.Deep.Strs
import Derived.Lay
import Derived.Test.YtnbafdmlfpmfkaaGreatDoorRows
import Derived.Test.YtnbafdmlfpmfkaaGreatDoorTie
import Derived.Test.YtnbafdmlfpmfkaaGreatDoorCards
set_option linter.unusedSimpArgs false
set_option linter.unusedVariables false
set_option maxRecDepth 100000
namespace Go.L23
open Go.Ev Go.Proofs Go.RowKit Go.ChangeShapes Go.WideShapes Go.ChangeAt
open Go.Proofs.YtnbafdmlfpmfkaaGreatDoor (Rows.laid_math_bits_deBruijn64tab Rows.laid_jacquard_ints_widths Rows.laid_unicode_utf8_acceptRanges Rows.laid_unicode_White_Space Rows.laid_strings_asciiSpace Rows.laid_jacquard_plain_sums Rows.laid_jacquard_plain_thans Rows.laid_jacquard_plain_counts Rows.laid_jacquard_plain_fthans Rows.laid_jacquard_plain_fones Rows.laid_jacquard_plain_ftwos Rows.laid_jacquard_plain_eight Rows.laid_unicode_utf8_first)
theorem andI {a b : Bool} (ha : a = true) (hb : b = true) : (a && b) = true := by rw [ha, hb]; rfl
theorem mainIs : Tryz.prog.mainIs = some (true, "8a0ec0e2d0c8395f9c70730a87ba2427364a143c9bc067253e316568675d628e".toList) := by kernel_rfl
theorem looks0 : false = Tryz.prog.looks [] := by kernel_rfl
theorem own : ownKnob Tryz.prog.godebug = none := by kernel_rfl
theorem laidOut : laidOutB Tryz.prog = true := by kernel_rfl
abbrev laid2 : List (String × DataW Unit) := [("math/bits.deBruijn64tab", Rows.laid_math_bits_deBruijn64tab), ("jacquard/ints.widths", Rows.laid_jacquard_ints_widths), ("unicode/utf8.acceptRanges", Rows.laid_unicode_utf8_acceptRanges), ("unicode.White_Space", Rows.laid_unicode_White_Space), ("strings.asciiSpace", Rows.laid_strings_asciiSpace), ("jacquard/plain.sums", Rows.laid_jacquard_plain_sums), ("jacquard/plain.thans", Rows.laid_jacquard_plain_thans), ("jacquard/plain.counts", Rows.laid_jacquard_plain_counts), ("jacquard/plain.fthans", Rows.laid_jacquard_plain_fthans), ("jacquard/plain.fones", Rows.laid_jacquard_plain_fones), ("jacquard/plain.ftwos", Rows.laid_jacquard_plain_ftwos), ("jacquard/plain.eight", Rows.laid_jacquard_plain_eight), ("unicode/utf8.first", Rows.laid_unicode_utf8_first)]
theorem glob_size {W : World} {g j : Nat} {v : Value} (h0 : W.cell? ⟨g, j, none⟩ = some v) : g < W.heap.size := by
 unfold World.cell? at h0
 rcases Nat.lt_or_ge g W.heap.size with h | h
 ·exact h
 ·rw [Array.getElem?_eq_none (by simpa using h)] at h0; simp at h0
theorem g9 : Tryz.prog.globalNamed "math/bits.deBruijn64tab" = some 9 := by kernel_rfl
theorem gt9 : (Tryz.prog.globals[9]?).map (·.type) = some 226 := by kernel_rfl
def gtab9 : List Int := [0, 1, 56, 2, 57, 49, 28, 3, 61, 58, 42, 50, 38, 29, 17, 4, 62, 47, 59, 36, 45, 43, 51, 22, 53, 39, 33, 30, 24, 18, 12, 5, 63, 55, 48, 27, 60, 41, 37, 16, 46, 35, 44, 21, 52, 32, 23, 11, 54, 26, 40, 15, 34, 20, 31, 10, 25, 14, 19, 9, 13, 8, 7, 6]
theorem g7 : Tryz.prog.globalNamed "jacquard/ints.widths" = some 7 := by kernel_rfl
theorem gt7 : (Tryz.prog.globals[7]?).map (·.type) = some 179 := by kernel_rfl
def gtab7 : List Int := [8, 16, 32, 64]
theorem g11 : Tryz.prog.globalNamed "strings.asciiSpace" = some 11 := by kernel_rfl
theorem gt11 : (Tryz.prog.globals[11]?).map (·.type) = some 249 := by kernel_rfl
def gtab11 : List Int := [0, 0, 0, 0, 0, 0, 0, 0, 0, 1, 1, 1, 1, 1, 0, 0, 0, 0, 0, 0, 0, 0, 0, 0, 0, 0, 0, 0, 0, 0, 0, 0, 1, 0, 0, 0, 0, 0, 0, 0, 0, 0, 0, 0, 0, 0, 0, 0, 0, 0, 0, 0, 0, 0, 0, 0, 0, 0, 0, 0, 0, 0, 0, 0, 0, 0, 0, 0, 0, 0, 0, 0, 0, 0, 0, 0, 0, 0, 0, 0, 0, 0, 0, 0, 0, 0, 0, 0, 0, 0, 0, 0, 0, 0, 0, 0, 0, 0, 0, 0, 0, 0, 0, 0, 0, 0, 0, 0, 0, 0, 0, 0, 0, 0, 0, 0, 0, 0, 0, 0, 0, 0, 0, 0, 0, 0, 0, 0, 0, 0, 0, 0, 0, 0, 0, 0, 0, 0, 0, 0, 0, 0, 0, 0, 0, 0, 0, 0, 0, 0, 0, 0, 0, 0, 0, 0, 0, 0, 0, 0, 0, 0, 0, 0, 0, 0, 0, 0, 0, 0, 0, 0, 0, 0, 0, 0, 0, 0, 0, 0, 0, 0, 0, 0, 0, 0, 0, 0, 0, 0, 0, 0, 0, 0, 0, 0, 0, 0, 0, 0, 0, 0, 0, 0, 0, 0, 0, 0, 0, 0, 0, 0, 0, 0, 0, 0, 0, 0, 0, 0, 0, 0, 0, 0, 0, 0, 0, 0, 0, 0, 0, 0, 0, 0, 0, 0, 0, 0, 0, 0, 0, 0, 0, 0, 0, 0, 0, 0, 0, 0, 0, 0, 0, 0, 0, 0]
theorem g6 : Tryz.prog.globalNamed "jacquard/plain.sums" = some 6 := by kernel_rfl
theorem gt6 : (Tryz.prog.globals[6]?).map (·.type) = some 165 := by kernel_rfl
def gtab6 : List Int := [1, 2, 3, 6, 4, 7, 5, 8, 9, 10, 11, 13, 12, 14, 15]
theorem g1 : Tryz.prog.globalNamed "jacquard/plain.thans" = some 1 := by kernel_rfl
theorem gt1 : (Tryz.prog.globals[1]?).map (·.type) = some 143 := by kernel_rfl
def gtab1 : List Int := [32, 33, 35, 34, 37, 36, 39, 38, 41, 40]
theorem g5 : Tryz.prog.globalNamed "jacquard/plain.counts" = some 5 := by kernel_rfl
theorem gt5 : (Tryz.prog.globals[5]?).map (·.type) = some 163 := by kernel_rfl
def gtab5 : List Int := [26, 27, 28]
theorem g2 : Tryz.prog.globalNamed "jacquard/plain.fthans" = some 2 := by kernel_rfl
theorem gt2 : (Tryz.prog.globals[2]?).map (·.type) = some 144 := by kernel_rfl
def gtab2 : List Int := [17, 18, 19, 20, 21, 22]
theorem g3 : Tryz.prog.globalNamed "jacquard/plain.fones" = some 3 := by kernel_rfl
theorem gt3 : (Tryz.prog.globals[3]?).map (·.type) = some 157 := by kernel_rfl
def gtab3 : List Int := [10, 11, 13, 14, 15, 16, 12]
theorem g4 : Tryz.prog.globalNamed "jacquard/plain.ftwos" = some 4 := by kernel_rfl
theorem gt4 : (Tryz.prog.globals[4]?).map (·.type) = some 157 := by kernel_rfl
def gtab4 : List Int := [1, 2, 3, 4, 5, 6, 7]
theorem g0 : Tryz.prog.globalNamed "jacquard/plain.eight" = some 0 := by kernel_rfl
theorem gt0 : (Tryz.prog.globals[0]?).map (·.type) = some 132 := by kernel_rfl
def gtab0 : List Int := [1, 2, 3, 4, 5, 6, 8, 9]
theorem u16_of_wf {n : Int} (h : (Lit.int .u16 n).wf = true) : ∃ x : BitVec 16, n = (x.toNat : Int) := by
 simp only [Lit.wf, Bool.and_eq_true, decide_eq_true_eq] at h
 have h1 : (0 : Int) ≤ n := h.1
 have h2 : n ≤ 65535 := h.2
 refine ⟨BitVec.ofNat 16 n.toNat, ?_⟩
 rw [BitVec.toNat_ofNat, Nat.mod_eq_of_lt (by omega)]
 omega
theorem u8s {W : World} {g : Nat} {gtab : List Int} {l : List (BitVec 8)} (h : ∀ j, j < gtab.length → W.cell? ⟨g, j, none⟩ = some (.int .u8 (gtab.getD j 0))) (hl : gtab = l.map fun x => (x.toNat : Int)) (h0 : decide (0 < l.length) = true) :
  g < W.heap.size ∧ ∀ j, j < (SV.a8 l).len → ∃ v, W.cell? ⟨g, j, none⟩ = some v ∧ rep [] ((SV.a8 l).cell j) v := by
 subst hl
 refine ⟨glob_size (h 0 (by simpa using h0)), fun j hj => ⟨_, h j (by simpa [SV.len] using hj), ?_⟩⟩
 have hj' : j < l.length := by simpa [SV.len] using hj
 simp only [SV.cell, rep]
 simp [List.getD_eq_getElem?_getD, hj']
theorem glob_of_laid {W : World} (h : laidMetH Tryz.prog laid2 W) : Glob G0 W := by
 rw [MakeChecks.laidMetH_plain _ _ _ (by kernel_rfl)] at h
 obtain ⟨ps, ⟨g0', t0', cs0, f0, p0, q0, hg0, ht0, hv0, hd0, ⟨g1', t1', cs1, f1, p1, q1, hg1, ht1, hv1, hd1, ⟨g2', t2', cs2, f2, p2, q2, hg2, ht2, hv2, hd2, ⟨g3', t3', cs3, f3, p3, q3, hg3, ht3, hv3, hd3, ⟨g4', t4', cs4, f4, p4, q4, hg4, ht4, hv4, hd4, ⟨g5', t5', cs5, f5, p5, q5, hg5, ht5, hv5, hd5, ⟨g6', t6', cs6, f6, p6, q6, hg6, ht6, hv6, hd6, ⟨g7', t7', cs7, f7, p7, q7, hg7, ht7, hv7, hd7, ⟨g8', t8', cs8, f8, p8, q8, hg8, ht8, hv8, hd8, ⟨g9', t9', cs9, f9, p9, q9, hg9, ht9, hv9, hd9, ⟨g10', t10', cs10, f10, p10, q10, hg10, ht10, hv10, hd10, ⟨g11', t11', cs11, f11, p11, q11, hg11, ht11, hv11, hd11, ⟨g12', t12', cs12, f12, p12, q12, hg12, ht12, hv12, hd12, _, _⟩, _⟩, _⟩, _⟩, _⟩, _⟩, _⟩, _⟩, _⟩, _⟩, _⟩, _⟩, _⟩, _, _⟩ := h
 obtain rfl := Option.some.inj (g9.symm.trans hg0)
 obtain rfl := Option.some.inj (gt9.symm.trans ht0)
 have at9 : ∀ j, j < 64 → W.cell? ⟨9, j, none⟩ = some (.int .u8 (gtab9.getD j 0)) := fun j hj => by
  rw [World.var?_cell hg0 hv0 j, ← Array.getElem?_toList]
  exact ints_of_trod (l := gtab9) Tryz.underlying226 Tryz.underlying5 (by kernel_rfl) hd0 j hj
 obtain rfl := Option.some.inj (g7.symm.trans hg1)
 obtain rfl := Option.some.inj (gt7.symm.trans ht1)
 have at7 : ∀ j, j < 4 → W.cell? ⟨7, j, none⟩ = some (.int .i64 (gtab7.getD j 0)) := fun j hj => by
  rw [World.var?_cell hg1 hv1 j, ← Array.getElem?_toList]
  exact ints_of_trod (l := gtab7) Tryz.underlying179 Tryz.underlying3 (by kernel_rfl) hd1 j hj
 obtain rfl := Option.some.inj (g11.symm.trans hg4)
 obtain rfl := Option.some.inj (gt11.symm.trans ht4)
 have at11 : ∀ j, j < 256 → W.cell? ⟨11, j, none⟩ = some (.int .u8 (gtab11.getD j 0)) := fun j hj => by
  rw [World.var?_cell hg4 hv4 j, ← Array.getElem?_toList]
  exact ints_of_trod (l := gtab11) Tryz.underlying249 Tryz.underlying5 (by kernel_rfl) hd4 j hj
 obtain rfl := Option.some.inj (g6.symm.trans hg5)
 obtain rfl := Option.some.inj (gt6.symm.trans ht5)
 have at6 : ∀ j, j < 15 → W.cell? ⟨6, j, none⟩ = some (.int .u8 (gtab6.getD j 0)) := fun j hj => by
  rw [World.var?_cell hg5 hv5 j, ← Array.getElem?_toList]
  exact ints_of_trod (l := gtab6) Tryz.underlying165 Tryz.underlying134 (by kernel_rfl) hd5 j hj
 obtain rfl := Option.some.inj (g1.symm.trans hg6)
 obtain rfl := Option.some.inj (gt1.symm.trans ht6)
 have at1 : ∀ j, j < 10 → W.cell? ⟨1, j, none⟩ = some (.int .u8 (gtab1.getD j 0)) := fun j hj => by
  rw [World.var?_cell hg6 hv6 j, ← Array.getElem?_toList]
  exact ints_of_trod (l := gtab1) Tryz.underlying143 Tryz.underlying134 (by kernel_rfl) hd6 j hj
 obtain rfl := Option.some.inj (g5.symm.trans hg7)
 obtain rfl := Option.some.inj (gt5.symm.trans ht7)
 have at5 : ∀ j, j < 3 → W.cell? ⟨5, j, none⟩ = some (.int .u8 (gtab5.getD j 0)) := fun j hj => by
  rw [World.var?_cell hg7 hv7 j, ← Array.getElem?_toList]
  exact ints_of_trod (l := gtab5) Tryz.underlying163 Tryz.underlying134 (by kernel_rfl) hd7 j hj
 obtain rfl := Option.some.inj (g2.symm.trans hg8)
 obtain rfl := Option.some.inj (gt2.symm.trans ht8)
 have at2 : ∀ j, j < 6 → W.cell? ⟨2, j, none⟩ = some (.int .u8 (gtab2.getD j 0)) := fun j hj => by
  rw [World.var?_cell hg8 hv8 j, ← Array.getElem?_toList]
  exact ints_of_trod (l := gtab2) Tryz.underlying144 Tryz.underlying131 (by kernel_rfl) hd8 j hj
 obtain rfl := Option.some.inj (g3.symm.trans hg9)
 obtain rfl := Option.some.inj (gt3.symm.trans ht9)
 have at3 : ∀ j, j < 7 → W.cell? ⟨3, j, none⟩ = some (.int .u8 (gtab3.getD j 0)) := fun j hj => by
  rw [World.var?_cell hg9 hv9 j, ← Array.getElem?_toList]
  exact ints_of_trod (l := gtab3) Tryz.underlying157 Tryz.underlying131 (by kernel_rfl) hd9 j hj
 obtain rfl := Option.some.inj (g4.symm.trans hg10)
 obtain rfl := Option.some.inj (gt4.symm.trans ht10)
 have at4 : ∀ j, j < 7 → W.cell? ⟨4, j, none⟩ = some (.int .u8 (gtab4.getD j 0)) := fun j hj => by
  rw [World.var?_cell hg10 hv10 j, ← Array.getElem?_toList]
  exact ints_of_trod (l := gtab4) Tryz.underlying157 Tryz.underlying131 (by kernel_rfl) hd10 j hj
 obtain rfl := Option.some.inj (g0.symm.trans hg11)
 obtain rfl := Option.some.inj (gt0.symm.trans ht11)
 have at0 : ∀ j, j < 8 → W.cell? ⟨0, j, none⟩ = some (.int .u8 (gtab0.getD j 0)) := fun j hj => by
  rw [World.var?_cell hg11 hv11 j, ← Array.getElem?_toList]
  exact ints_of_trod (l := gtab0) Tryz.underlying132 Tryz.underlying131 (by kernel_rfl) hd11 j hj
 intro g c hgc
 simp only [G0, List.mem_cons, List.not_mem_nil, or_false, Prod.mk.injEq] at hgc
 rcases hgc with ⟨rfl, rfl⟩ | ⟨rfl, rfl⟩ | ⟨rfl, rfl⟩ | ⟨rfl, rfl⟩ | ⟨rfl, rfl⟩ | ⟨rfl, rfl⟩ | ⟨rfl, rfl⟩ | ⟨rfl, rfl⟩ | ⟨rfl, rfl⟩ | ⟨rfl, rfl⟩
 ·exact u8s (gtab := gtab0) at0 rfl rfl
 ·exact u8s (gtab := gtab1) at1 rfl rfl
 ·exact u8s (gtab := gtab2) at2 rfl rfl
 ·exact u8s (gtab := gtab3) at3 rfl rfl
 ·exact u8s (gtab := gtab4) at4 rfl rfl
 ·exact u8s (gtab := gtab5) at5 rfl rfl
 ·exact u8s (gtab := gtab6) at6 rfl rfl
 ·exact ⟨glob_size (at7 0 (by decide)), fun j hj => ⟨_, at7 j (by simpa [SV.len] using hj), by simp only [SV.cell, rep]; rfl⟩⟩
 ·exact ⟨glob_size (at9 0 (by decide)), fun j hj => ⟨_, at9 j (by simpa [SV.len] using hj), by simp only [SV.cell, rep]; rfl⟩⟩
 ·exact u8s (gtab := gtab11) at11 rfl rfl
theorem lay_met (os : Os) (args : Array Value) : laidMetH Tryz.prog laid2 ((World.laidAll Tryz.prog os laid2).forCall (fun _ _ => 0) ⟨#[], args, []⟩).memory := by
 rw [MakeChecks.laidMetH_plain _ _ _ (by kernel_rfl)]
 exact laidMet_laidAll _ (by kernel_rfl) (by kernel_rfl)
theorem lay_shaped (os : Os) : (World.laidAll Tryz.prog os laid2).Shaped Tryz.prog := World.shaped_of_ZipB (by kernel_rfl) (by kernel_rfl)
noncomputable def trueS (ok : List D → Bool) : Ev.Spec := guarded fun ds => some (ok ds, .bool true)
theorem call_true {f : Nat} {ok : List D → Bool} (hs : Snd f (trueS ok)) {ds : List D} {w : World} {args : List Value} (hok : ok ds = true) (hG : Glob G0 w) (hl : lie none w ds args)
  (hcall : (callFunc f ⟨args⟩).run Tryz.prog w = .ok (.enter f ⟨args⟩) w) : Calls Tryz.prog f ⟨args⟩ w fun e w' => e = .returned (.bool true) ∧ Below w.heap.size w w' := by
 obtain ⟨d, hd, hgo⟩ := hs ds some (.bool true) (by simp [trueS, guarded, hok])
 cases hd
 rcases hgo w args hG hl with ⟨v, w', h1, _⟩ | ⟨_, h2⟩
 ·rw [hcall] at h1; cases h1
 ·exact Calls.mono h2 fun e w' ⟨v, he, hb, hv⟩ => by
   simp only [lies] at hv
   subst hv
   exact ⟨he, hb⟩
section
variable {H : Type} {enc : TypeId × Value → H} {W : World} {base b0 : Nat} {spare : Nat → Bool} {held : Bool} {r : Reach} {own : Option Nat} {v : Value} {d : DataW H} {p : List MemPlace}
set_option maxRecDepth 100000 in
theorem a_vec (hv : Value.okWide Tryz.prog W r b0 26 v) (h : DataW.Trod enc Tryz.prog W base spare held 26 v d p) : ∃ x y : BitVec 64, lies own W (vec x y) v :=
 arg_vec Tryz.underlying26 (by kernel_rfl) (by kernel_rfl) Tryz.underlying24 Tryz.underlying24 hv h
theorem a_u16 {t : TypeId} (ht : Tryz.prog.underlying t = some (.int .u16)) (hv : Value.okWide Tryz.prog W r b0 t v) (h : DataW.Trod enc Tryz.prog W base spare held t v d p) : ∃ x : BitVec 16, lies own W (.u16 x) v := by
 obtain ⟨n, rfl, _, _, hw⟩ := open_int ht hv h
 obtain ⟨x, rfl⟩ := u16_of_wf hw
 exact ⟨x, by simp only [lies]⟩
set_option maxRecDepth 100000 in
theorem a_val (hv : Value.okWide Tryz.prog W r b0 29 v) (h : DataW.Trod enc Tryz.prog W base spare held 29 v d p) : ∃ (t : BitVec 8) (x y : BitVec 64), lies own W (.agg [.u8 t, .u64 x, .u64 y]) v := by
 obtain ⟨cs, rfl, hsz⟩ := okWide_struct Tryz.underlying29 hv
 obtain ⟨v0, v1, v2, rfl⟩ : ∃ a b c, cs = #[a, b, c] := by
  obtain ⟨l⟩ := cs
  have hC : Tryz.prog.cellsOf 29 = 3 := by kernel_rfl
  have hl : l.length = 3 := hsz.trans hC
  match l, hl with
  | [a, b, c], _ => exact ⟨a, b, c, rfl⟩
 obtain ⟨fuel, hf⟩ := h
 obtain ⟨y0, y1, y2, n, _, _, t0, t1, t2⟩ := Go.Deep.trod_struct3 Tryz.underlying29 hf
 have c27 : Tryz.prog.cellsOf 27 = 1 := by kernel_rfl
 have c24 : Tryz.prog.cellsOf 24 = 1 := by kernel_rfl
 simp only [Value.cells, c27, c24, List.drop_zero, List.take_succ_cons, List.take_zero, List.drop_succ_cons] at t0 t1 t2
 obtain ⟨a, e0, _, w0⟩ := DataW.trod_int Tryz.underlying27 t0
 obtain ⟨b, e1, _, w1⟩ := DataW.trod_int Tryz.underlying24 t1
 obtain ⟨c, e2, _, w2⟩ := DataW.trod_int Tryz.underlying24 t2
 cases e0; cases e1; cases e2
 obtain ⟨x, rfl⟩ := u8_of_wf w0
 obtain ⟨y, rfl⟩ := u64_of_wf w1
 obtain ⟨z, rfl⟩ := u64_of_wf w2
 exact ⟨x, y, z, by simp only [lies, lie]; exact ⟨_, rfl, _, _, rfl, rfl, _, _, rfl, rfl, _, _, rfl, rfl, rfl⟩⟩
end
end Go.L23

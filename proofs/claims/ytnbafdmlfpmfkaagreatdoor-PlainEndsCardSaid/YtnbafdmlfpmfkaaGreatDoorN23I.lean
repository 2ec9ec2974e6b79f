/-
  Part of the proof; what its functions and lemmas say stands in the text.
-/
import Derived.Test.YtnbafdmlfpmfkaaGreatDoorQ23A
import Derived.Lib.IndexEntry
set_option linter.unusedSimpArgs false
set_option linter.unusedVariables false
set_option maxRecDepth 100000
set_option maxHeartbeats 0
namespace Go.L23
open Go.Ev Go.Proofs Go.RowKit Go.Wh
def G1 (m : Int) : List (Nat × SV) := (10, .agg [.i .i64 m]) :: G0
abbrev Snd1 (m : Int) (f : Nat) (s : Ev.Spec) : Prop := Sound Tryz.prog (G1 m) f s
noncomputable abbrev ex1 (m : Int) (l : List (Nat × Ev.Spec)) (ann : Nat → List Nat) (f : Func) : Ev.Spec := execFn Tryz.prog (G1 m) (tabOf l) ann f 50
theorem glob1 {m : Int} {w : World} (h : Glob (G1 m) w) : Glob G0 w := fun g c hm => h g c (List.mem_cons_of_mem _ hm)
theorem lift {f : Nat} {s : Ev.Spec} (h : Snd f s) (m : Int) : Snd1 m f s := fun ds K r hK => by
 obtain ⟨d, h1, h2⟩ := h ds K r hK
 exact ⟨d, h1, fun w args hG hl => h2 w args (glob1 hG) hl⟩
noncomputable def ixS (m : Int) : Ev.Spec := guarded fun | [.c (.string a), .c (.string b)] => some (decide (2 ≤ b.size) && decide ((b.size : Int) ≤ m) && decide (a.size < 4294967281), .i .i64 (Lib.index a.data.toList b.data.toList)) | _ => none
theorem maxAt : Tryz.prog.globals.findIdx? (·.name == "internal/bytealg.MaxLen") = some 10 := by kernel_rfl
theorem t_ix (m : Int) : Snd1 m 310 (ixS m) := by
 have x : ExtF Tryz.prog 310 Extern.BytealgIndex.index := ⟨⟨Tryz.f310, Tryz.func310, by kernel_rfl, by kernel_rfl, by kernel_rfl, by kernel_rfl⟩⟩
 obtain ⟨fn, hf, hname, hb, hn, he⟩ := x.out
 refine Sound.of_ptG fun ds d hd => ?_
 split at hd
 ·rename_i a b
  simp only [Option.some.injEq, Prod.mk.injEq, Bool.and_eq_true, decide_eq_true_eq] at hd
  obtain ⟨⟨⟨h2, h3⟩, h4⟩, rfl⟩ := hd
  intro w args hG hl
  simp only [lie, lies] at hl
  obtain ⟨v, t, rfl, rfl, v2, t2, rfl, rfl, rfl⟩ := hl
  have hm : w.cell? ⟨10, 0, none⟩ = some (.int .i64 m) := by
   obtain ⟨_, hc⟩ := hG 10 _ List.mem_cons_self
   obtain ⟨u, h5, h6⟩ := hc 0 (show 0 < 1 from Nat.one_pos)
   simp only [SV.cell, List.getD_cons_zero, rep] at h6
   rw [h5, h6]
  refine .inl ⟨.int .i64 (Lib.index a.data.toList b.data.toList), w, ?_, Below.refl _ _, by simp only [lies]⟩
  rw [run_callFunc_extern hf hname hb hn he, Lib.run_indexString a b w 10 m maxAt hm h2 h3 h4]
  rfl
 ·cases hd
noncomputable def Y262 (m : Int) : Ev.Spec := ex1 m [(309, X309), (310, ixS m)] ann262 Tryz.f262
theorem t_Y262 (m : Int) : Snd1 m 262 (Y262 m) := execFn_sound (ann := ann262) (TableOK.cons (lift t_X309 m) (TableOK.cons (t_ix m) TableOK.nil)) mixed Tryz.func262 (by kernel_rfl) 50
noncomputable def Y263 (m : Int) : Ev.Spec := ex1 m [(262, Y262 m)] (fun _ => []) Tryz.f263
theorem t_Y263 (m : Int) : Snd1 m 263 (Y263 m) := execFn_sound (ann := fun _ => []) (TableOK.cons (t_Y262 m) TableOK.nil) mixed Tryz.func263 (by kernel_rfl) 50
noncomputable def Y194 (m : Int) : Ev.Spec := ex1 m [(263, Y263 m)] (fun _ => []) Tryz.f194
theorem t_Y194 (m : Int) : Snd1 m 194 (Y194 m) := execFn_sound (ann := fun _ => []) (TableOK.cons (t_Y263 m) TableOK.nil) mixed Tryz.func194 (by kernel_rfl) 50
abbrev high : List UInt8 := [95, 104, 105, 103, 104, 95]
def shortT : List (List UInt8 × Bool) := [([97, 98, 115], false), ([97, 100, 100], false), ([97, 118, 103, 114, 95, 117], false), ([109, 97, 120, 95, 115], false), ([109, 97, 120, 95, 117], false), ([109, 105, 110, 95, 115], false), ([109, 105, 110, 95, 117], false), ([109, 117, 108], false), ([110, 101, 103], false), ([112, 111, 112, 99, 110, 116], false), ([115, 104, 108], false), ([115, 104, 114, 95, 115], false), ([115, 104, 114, 95, 117], false), ([115, 117, 98], false)]
def longT : List (List UInt8 × Bool × Nat) := [([97, 100, 100, 95, 115, 97, 116, 95, 115], false, 1), ([97, 100, 100, 95, 115, 97, 116, 95, 117], false, 1), ([97, 108, 108, 95, 116, 114, 117, 101], false, 0), ([98, 105, 116, 109, 97, 115, 107], false, 0), ([100, 111, 116, 95, 105, 49, 54, 120, 56, 95, 115], false, 1), ([101, 120, 116, 97, 100, 100, 95, 112, 97, 105, 114, 119, 105, 115, 101, 95, 105, 49, 54, 120, 56, 95, 115], false, 2), ([101, 120, 116, 97, 100, 100, 95, 112, 97, 105, 114, 119, 105, 115, 101, 95, 105, 49, 54, 120, 56, 95, 117], false, 2), ([101, 120, 116, 97, 100, 100, 95, 112, 97, 105, 114, 119, 105, 115, 101, 95, 105, 56, 120, 49, 54, 95, 115], false, 2), ([101, 120, 116, 97, 100, 100, 95, 112, 97, 105, 114, 119, 105, 115, 101, 95, 105, 56, 120, 49, 54, 95, 117], false, 2), ([101, 120, 116, 101, 110, 100, 95, 104, 105, 103, 104, 95, 105, 49, 54, 120, 56, 95, 115], true, 0), ([101, 120, 116, 101, 110, 100, 95, 104, 105, 103, 104, 95, 105, 49, 54, 120, 56, 95, 117], true, 0), ([101, 120, 116, 101, 110, 100, 95, 104, 105, 103, 104, 95, 105, 51, 50, 120, 52, 95, 115], true, 0), ([101, 120, 116, 101, 110, 100, 95, 104, 105, 103, 104, 95, 105, 51, 50, 120, 52, 95, 117], true, 0), ([101, 120, 116, 101, 110, 100, 95, 104, 105, 103, 104, 95, 105, 56, 120, 49, 54, 95, 115], true, 0), ([101, 120, 116, 101, 110, 100, 95, 104, 105, 103, 104, 95, 105, 56, 120, 49, 54, 95, 117], true, 0), ([101, 120, 116, 101, 110, 100, 95, 108, 111, 119, 95, 105, 49, 54, 120, 56, 95, 115], false, 2), ([101, 120, 116, 101, 110, 100, 95, 108, 111, 119, 95, 105, 49, 54, 120, 56, 95, 117], false, 2), ([101, 120, 116, 101, 110, 100, 95, 108, 111, 119, 95, 105, 51, 50, 120, 52, 95, 115], false, 2), ([101, 120, 116, 101, 110, 100, 95, 108, 111, 119, 95, 105, 51, 50, 120, 52, 95, 117], false, 2), ([101, 120, 116, 101, 110, 100, 95, 108, 111, 119, 95, 105, 56, 120, 49, 54, 95, 115], false, 2), ([101, 120, 116, 101, 110, 100, 95, 108, 111, 119, 95, 105, 56, 120, 49, 54, 95, 117], false, 2), ([101, 120, 116, 109, 117, 108, 95, 104, 105, 103, 104, 95, 105, 49, 54, 120, 56, 95, 115], true, 0), ([101, 120, 116, 109, 117, 108, 95, 104, 105, 103, 104, 95, 105, 49, 54, 120, 56, 95, 117], true, 0), ([101, 120, 116, 109, 117, 108, 95, 104, 105, 103, 104, 95, 105, 51, 50, 120, 52, 95, 115], true, 0), ([101, 120, 116, 109, 117, 108, 95, 104, 105, 103, 104, 95, 105, 51, 50, 120, 52, 95, 117], true, 0), ([101, 120, 116, 109, 117, 108, 95, 104, 105, 103, 104, 95, 105, 56, 120, 49, 54, 95, 115], true, 0), ([101, 120, 116, 109, 117, 108, 95, 104, 105, 103, 104, 95, 105, 56, 120, 49, 54, 95, 117], true, 0), ([101, 120, 116, 109, 117, 108, 95, 108, 111, 119, 95, 105, 49, 54, 120, 56, 95, 115], false, 2), ([101, 120, 116, 109, 117, 108, 95, 108, 111, 119, 95, 105, 49, 54, 120, 56, 95, 117], false, 2), ([101, 120, 116, 109, 117, 108, 95, 108, 111, 119, 95, 105, 51, 50, 120, 52, 95, 115], false, 2), ([101, 120, 116, 109, 117, 108, 95, 108, 111, 119, 95, 105, 51, 50, 120, 52, 95, 117], false, 2), ([101, 120, 116, 109, 117, 108, 95, 108, 111, 119, 95, 105, 56, 120, 49, 54, 95, 115], false, 2), ([101, 120, 116, 109, 117, 108, 95, 108, 111, 119, 95, 105, 56, 120, 49, 54, 95, 117], false, 2), ([110, 97, 114, 114, 111, 119, 95, 105, 49, 54, 120, 56, 95, 115], false, 1), ([110, 97, 114, 114, 111, 119, 95, 105, 49, 54, 120, 56, 95, 117], false, 1), ([110, 97, 114, 114, 111, 119, 95, 105, 51, 50, 120, 52, 95, 115], false, 1), ([110, 97, 114, 114, 111, 119, 95, 105, 51, 50, 120, 52, 95, 117], false, 1), ([113, 49, 53, 109, 117, 108, 114, 95, 115, 97, 116, 95, 115], false, 1), ([115, 117, 98, 95, 115, 97, 116, 95, 115], false, 1), ([115, 117, 98, 95, 115, 97, 116, 95, 117], false, 1)]
def failT (m : Int) (x : Option D) : Nat → Option D
 | 0 => x
 | k + 1 => if decide ((6 : Int) ≤ m) = true then none else if decide (m < (6 : Int)) = true then failT m x k else failT m x k
theorem failT_no {m : Int} (h : ¬ (6 : Int) ≤ m) (x : Option D) : ∀ k, failT m x k = x
 | 0 => rfl
 | k + 1 => by simp [failT, h, failT_no h x k]
theorem short_ok (m : Int) : AllP (fun q : List UInt8 × Bool => Y194 m [str q.1, str high] some = some (.bool q.2)) shortT := by
 refine AllP.cons ?_ (AllP.cons ?_ (AllP.cons ?_ (AllP.cons ?_ (AllP.cons ?_ (AllP.cons ?_ (AllP.cons ?_ (AllP.cons ?_ (AllP.cons ?_ (AllP.cons ?_ (AllP.cons ?_ (AllP.cons ?_ (AllP.cons ?_ (AllP.cons ?_ (AllP.nil)))))))))))))) <;> (as_aux_lemma => kernel_rfl)
theorem long_ok (m : Int) : AllP (fun q : List UInt8 × Bool × Nat => Y194 m [str q.1, str high] some = if decide ((6 : Int) ≤ m) = true then if (decide (2 ≤ (6 : Nat)) && decide ((6 : Int) ≤ m) && decide (q.1.length < 4294967281)) = true then some (.bool q.2.1) else none else failT m (some (.bool q.2.1)) q.2.2) longT := by
 refine AllP.cons ?_ (AllP.cons ?_ (AllP.cons ?_ (AllP.cons ?_ (AllP.cons ?_ (AllP.cons ?_ (AllP.cons ?_ (AllP.cons ?_ (AllP.cons ?_ (AllP.cons ?_ (AllP.cons ?_ (AllP.cons ?_ (AllP.cons ?_ (AllP.cons ?_ (AllP.cons ?_ (AllP.cons ?_ (AllP.cons ?_ (AllP.cons ?_ (AllP.cons ?_ (AllP.cons ?_ (AllP.cons ?_ (AllP.cons ?_ (AllP.cons ?_ (AllP.cons ?_ (AllP.cons ?_ (AllP.cons ?_ (AllP.cons ?_ (AllP.cons ?_ (AllP.cons ?_ (AllP.cons ?_ (AllP.cons ?_ (AllP.cons ?_ (AllP.cons ?_ (AllP.cons ?_ (AllP.cons ?_ (AllP.cons ?_ (AllP.cons ?_ (AllP.cons ?_ (AllP.cons ?_ (AllP.cons ?_ (AllP.nil)))))))))))))))))))))))))))))))))))))))) <;> (as_aux_lemma => kernel_rfl)
end Go.L23

/-
  Part of the proof; what its functions and lemmas say stands in the text.
-/
import Derived.Test.YtakonchpkchfhaaDoorEv21
import Derived.ProofKit
import Derived.LaidMore
import Derived.OpenShut
import Derived.Carry
import Derived.Stop.Joined
import Derived.Deep.Fields
set_option linter.unusedSimpArgs false
set_option linter.unusedVariables false
/-!
A row's arguments as data; what a row asks behind the call.
-/
namespace Go.Ev
open Go.RowKit Go.ChangeShapes Go.WideShapes

section
variable {H : Type} {enc : TypeId × Value → H} {P : Program}

theorem trodAll_stays (hl : laidOutB P = true) {W W' : World} (hb : Below W.heap.size W W') {sp : Nat → Bool} : ∀ {ts : List TypeId} {vs : List Value} {ds : List (DataW H)} {ps : List MemPlace},
    (∀ t ∈ ts, P.readableRec t = true ∧ t < P.types.size) → DataW.TrodAll enc P W 0 (fun _ => true) true ts vs ds ps → (∀ x ∈ ps, x.block < W.heap.size) → (∀ x ∈ ps, sp x.block = true) →
    DataW.TrodAll enc P W' 0 sp true ts vs ds ps
  | [], vs, ds, ps, _, h, _, _ => by
    obtain ⟨rfl, rfl, rfl⟩ := trodAll_nil h
    rfl
  | t :: ts, vs, ds, ps, ht, h, hlt, hsp => by
    obtain ⟨v, vs', d, ds', p, q, rfl, rfl, rfl, h1, h2⟩ := trodAll_cons h
    obtain ⟨hr, hrow⟩ := ht t List.mem_cons_self
    exact ⟨p, q, WideElems.Trod_stays hl hr hrow h1 (fun x hx => hb.same (hlt x (List.mem_append_left _ hx))) (fun x hx => hsp x (List.mem_append_left _ hx)),
      trodAll_stays hl hb (fun u hu => ht u (List.mem_cons_of_mem _ hu)) h2 (fun x hx => hlt x (List.mem_append_right _ hx)) (fun x hx => hsp x (List.mem_append_right _ hx)), rfl⟩

/-- A law that came back with 'true', and wrote to no old memory. -/
theorem post_law {f : Func} {s : ChangeSpec} {apart fresh handsOn again : Bool} {W W' : World} {args : Array Value} {ds gs : List (DataW H)} {before : List MemPlace} {b : TypeId}
    (hW : DataW.Whole enc P f.params.toList s.vars apart W args.toList ds gs before) (hb : Below W.heap.size W W') (hl : laidOutB P = true) (hpb : f.params.toList.all (fun t => P.readableRec t && decide (t < P.types.size)) = true)
    (hvars : s.vars = []) (hr : f.resultTypes = #[b]) (hbt : P.underlying b = some .bool) (hfn : s.fn H ds = { results := [.lit (.bool true)], args := ds }) :
    s.post enc P f apart fresh handsOn again W args (.bool true) W' := by
  have hp : ∀ t ∈ f.params.toList, P.readableRec t = true ∧ t < P.types.size := fun t ht => by simpa using List.all_eq_true.1 hpb t ht
  have hlt : ∀ x ∈ before, x.block < W.heap.size := fun x hx => by simpa using hW.lt x hx
  have hW0 := hW
  obtain ⟨p, q, hA, hV, rfl, hz, hn⟩ := hW
  rw [hvars] at hV
  obtain ⟨rfl, rfl⟩ := trodVars_none hV
  simp only [List.append_nil] at hlt hz hn hW0
  have hold : ∀ x ∈ p, (fun b => decide (b < W.heap.size)) x.block = true := fun x hx => by simpa using hlt x hx
  have hargs : ∀ sp : Nat → Bool, (∀ x ∈ p, sp x.block = true) → DataW.TrodAll enc P W' 0 sp true f.params.toList args.toList ds p := fun sp hsp => trodAll_stays hl hb hp hA hlt hsp
  have hres : ∀ (b' : Nat) (sp : Nat → Bool) (hd : Bool), DataW.TrodAll enc P W' b' sp hd f.resultTypes.toList ((Value.bool true).resultList f.resultTypes.size) [.lit (.bool true)] [] := fun b' sp hd => by
    rw [hr]
    exact trodAll_mk1 (shut_bool hbt _)
  have hvs : ∀ sp : Nat → Bool, DataW.TrodVars enc P W' sp s.vars [] [] := fun sp => by rw [hvars]; rfl
  refine ⟨ds, [], p, [], p, [], by simpa using hW0, ?_, ?_, ?_, World.keptBut_mono (fun x hx => ⟨hx, .inr (.inl hx)⟩) (hb.frame (· ∈ p)), fun _ => ?_⟩
  · rw [List.append_nil, hfn]; exact hres _ _ _
  · rw [List.append_nil, hfn]; exact hargs _ hold
  · rw [List.append_nil, hfn]; exact hvs _
  · refine ⟨ok_one hr rfl (okWide_bool_mk hbt _), _, _, ([] ++ p) ++ [], ⟨[] ++ p, [], trodAll_append (hargs _ (fun _ _ => rfl)) (hres _ _ _), hvs _, rfl, ?_, ?_⟩, ?_⟩
    · intro b' off hp'
      simp only [List.nil_append, List.append_nil] at hp'
      rw [hb.frozen (hlt _ hp')]
      exact hz b' off hp'
    · intro ha
      simpa using hn ha
    · intro x hx _
      simpa using hx

/-! Arguments -/
theorem u64_of_wf {n : Int} (h : (Lit.int .u64 n).wf = true) : ∃ x : BitVec 64, n = (x.toNat : Int) := by
  simp only [Lit.wf, Bool.and_eq_true, decide_eq_true_eq] at h
  have h1 : (0 : Int) ≤ n := h.1
  have h2 : n ≤ 18446744073709551615 := h.2
  refine ⟨BitVec.ofNat 64 n.toNat, ?_⟩
  rw [BitVec.toNat_ofNat, Nat.mod_eq_of_lt (by omega)]
  omega
theorem u8_of_wf {n : Int} (h : (Lit.int .u8 n).wf = true) : ∃ x : BitVec 8, n = (x.toNat : Int) := by
  simp only [Lit.wf, Bool.and_eq_true, decide_eq_true_eq] at h
  have h1 : (0 : Int) ≤ n := h.1
  have h2 : n ≤ 255 := h.2
  refine ⟨BitVec.ofNat 8 n.toNat, ?_⟩
  rw [BitVec.toNat_ofNat, Nat.mod_eq_of_lt (by omega)]
  omega
variable {W : World} {base b0 : Nat} {spare : Nat → Bool} {held : Bool} {r : Reach} {own : Option Nat} {v : Value} {d : DataW H} {p : List MemPlace} {t : TypeId}
theorem arg_u64 (ht : P.underlying t = some (.int .u64)) (hv : Value.okWide P W r b0 t v) (h : DataW.Trod enc P W base spare held t v d p) : ∃ x : BitVec 64, lies own W (.u64 x) v := by
  obtain ⟨n, rfl, _, _, hw⟩ := open_int ht hv h
  obtain ⟨x, rfl⟩ := u64_of_wf hw
  exact ⟨x, by simp only [lies]⟩
theorem arg_u8 (ht : P.underlying t = some (.int .u8)) (hv : Value.okWide P W r b0 t v) (h : DataW.Trod enc P W base spare held t v d p) : ∃ x : BitVec 8, lies own W (.u8 x) v := by
  obtain ⟨n, rfl, _, _, hw⟩ := open_int ht hv h
  obtain ⟨x, rfl⟩ := u8_of_wf hw
  exact ⟨x, by simp only [lies]⟩
theorem arg_i64 (ht : P.underlying t = some (.int .i64)) (hv : Value.okWide P W r b0 t v) (h : DataW.Trod enc P W base spare held t v d p) : ∃ n : Int, lies own W (.i .i64 n) v ∧ (Lit.int .i64 n).wf = true := by
  obtain ⟨n, rfl, _, _, hw⟩ := open_int ht hv h
  exact ⟨n, by simp only [lies], hw⟩
theorem arg_vec {f0 f1 : Field} (ht : P.underlying t = some (.struct #[f0, f1])) (hone : Go.Deep.oneCellFields P #[f0, f1] = true) (hC : P.cellsOf t = 2) (h0 : P.underlying f0.type = some (.int .u64)) (h1 : P.underlying f1.type = some (.int .u64))
    (hv : Value.okWide P W r b0 t v) (h : DataW.Trod enc P W base spare held t v d p) : ∃ x y : BitVec 64, lies own W (.agg [.u64 x, .u64 y]) v := by
  obtain ⟨cs, rfl, hsz⟩ := okWide_struct ht hv
  obtain ⟨v0, v1, rfl⟩ : ∃ a b, cs = #[a, b] := by
    obtain ⟨l⟩ := cs
    have hl : l.length = 2 := hsz.trans hC
    match l, hl with
    | [a, b], _ => exact ⟨a, b, rfl⟩
  obtain ⟨fuel, hf⟩ := h
  obtain ⟨y0, y1, n, _, _, t0, t1⟩ := trod_struct2 ht hf
  obtain ⟨o0, k0⟩ := Go.Deep.hone_of hone 0 f0 rfl
  obtain ⟨o1, k1⟩ := Go.Deep.hone_of hone 1 f1 rfl
  rw [o0, k0] at t0
  rw [o1, k1] at t1
  simp only [Value.cells, List.drop_zero, List.take_succ_cons, List.take_zero, List.drop_succ_cons] at t0 t1
  obtain ⟨a, e0, _, w0⟩ := DataW.trod_int h0 t0
  obtain ⟨b, e1, _, w1⟩ := DataW.trod_int h1 t1
  cases e0; cases e1
  obtain ⟨x, rfl⟩ := u64_of_wf w0
  obtain ⟨y, rfl⟩ := u64_of_wf w1
  exact ⟨x, y, by simp only [lies, lie]; exact ⟨_, rfl, _, _, rfl, rfl, _, _, rfl, rfl, rfl⟩⟩

theorem okWide_arr {n : Nat} {e : TypeId} (ht : P.underlying t = some (.array n e)) (h : Value.okWide P W r b0 t v) : ∃ cs, v = .agg cs ∧ cs.size = P.cellsOf t := by
  simp only [Value.okWide, ht] at h
  obtain ⟨cs, h1, h2, _⟩ := h
  exact ⟨cs, h1, h2⟩
theorem u8s_list : ∀ (cs : List Value), (∀ j, j < cs.length → ∃ x : BitVec 8, cs[j]? = some (v8 x)) → ∃ l : List (BitVec 8), cs = l.map v8
  | [], _ => ⟨[], rfl⟩
  | c :: cs, h => by
    obtain ⟨x, hx⟩ := h 0 (by simp)
    obtain ⟨l, hl⟩ := u8s_list cs fun j hj => by
      obtain ⟨y, hy⟩ := h (j + 1) (by simpa using hj)
      exact ⟨y, by simpa using hy⟩
    simp only [List.getElem?_cons_zero, Option.some.injEq] at hx
    exact ⟨x :: l, by rw [hx, hl]; rfl⟩
theorem arg_u8s {n : Nat} {e : TypeId} (ht : P.underlying t = some (.array n e)) (he : P.underlying e = some (.int .u8)) (hc : P.cellsOf e = 1) (hC : P.cellsOf t = n) (hv : Value.okWide P W r b0 t v) (h : DataW.Trod enc P W base spare held t v d p) :
    ∃ l : List (BitVec 8), l.length = n ∧ lies own W (.a8 l) v := by
  obtain ⟨⟨cs⟩, rfl, hsz⟩ := okWide_arr ht hv
  obtain ⟨fuel, hf⟩ := h
  obtain ⟨xs, m, _, _, hlen, hn, hel⟩ := DataW.trod_array ht hf
  simp only [Value.cells] at hlen hel
  have hn' : cs.length = n := by simpa using hsz.trans hC
  obtain ⟨l, rfl⟩ := u8s_list cs fun j hj => by
    have h1 := hel j (by omega)
    rw [hc, Nat.mul_one, List.getElem?_eq_getElem (by omega : j < xs.length)] at h1
    obtain ⟨i, e1, _, e3⟩ := DataW.trod_int he h1
    obtain ⟨x, rfl⟩ := u8_of_wf e3
    refine ⟨x, ?_⟩
    have h3 : (cs.drop j).head? = some (v8 x) := by
      cases hd : cs.drop j with
      | nil => rw [hd] at e1; simp at e1
      | cons a b => rw [hd] at e1; simp at e1; simp [e1, v8]
    rw [List.head?_drop] at h3
    exact h3
  exact ⟨l, by simpa using hn', by simp only [lies]⟩
theorem arg_bool (ht : P.underlying t = some .bool) (hv : Value.okWide P W r b0 t v) (h : DataW.Trod enc P W base spare held t v d p) : ∃ x : Bool, lies own W (.bool x) v := by
  obtain ⟨x, rfl, _, _⟩ := open_bool ht hv h
  exact ⟨x, by simp only [lies]⟩

theorem u64s_of {zs : List Int} (h : ∀ n ∈ zs, (Lit.int .u64 n).wf = true) : ∃ l : List (BitVec 64), zs = l.map fun x => (x.toNat : Int) := by
  induction zs with
  | nil => exact ⟨[], rfl⟩
  | cons z zs ih =>
    obtain ⟨l, rfl⟩ := ih fun n hn => h n (List.mem_cons_of_mem _ hn)
    obtain ⟨x, rfl⟩ := u64_of_wf (h z List.mem_cons_self)
    exact ⟨x :: l, rfl⟩
/-- A slice of words: nil, without room, or words in memory. -/
theorem arg_sl64 {e : TypeId} (ht : P.underlying t = some (.slice e)) (he : P.underlying e = some (.int .u64)) (hc : P.cellsOf e = 1) (hv : Value.okWide P W r b0 t v) (h : DataW.Trod enc P W base (fun _ => true) held t v d p) :
    ∃ x : D, lies none W x v ∧ (x = .c (.slice none 0 0) ∨ (∃ a, x = .c (.slice (some a) 0 0)) ∨ ∃ l, x = .sl64 l ∧ l.length ≤ maxLen) := by
  obtain ⟨a, len, cap, rfl⟩ := okWide_slice ht hv
  obtain ⟨fuel, hf⟩ := h
  simp only [Value.cells] at hf
  rcases open_ints ht he hc hf with ⟨h1, _⟩ | ⟨a', len', cap', zs, h1, _, h3, h4, h5, _, h7, h8⟩
  · simp only [List.cons.injEq, Value.slice.injEq, and_true] at h1
    obtain ⟨rfl, rfl, rfl⟩ := h1
    exact ⟨.c (.slice none 0 0), by simp only [lies], .inl rfl⟩
  · simp only [List.cons.injEq, Value.slice.injEq, and_true] at h1
    obtain ⟨rfl, rfl, rfl⟩ := h1
    simp only [if_true] at h5
    rcases Nat.eq_zero_or_pos cap with rfl | hpos
    · obtain rfl : len = 0 := by omega
      exact ⟨.c (.slice (some a') 0 0), by simp only [lies], .inr (.inl ⟨a', rfl⟩)⟩
    · obtain ⟨l, rfl⟩ := u64s_of h8
      simp only [List.length_map] at h5 h7
      have c0 := h7 0 (by omega)
      obtain ⟨b, o, spot⟩ := a'
      have hspot : spot = none ∧ b < W.heap.size := by
        have e0 : (⟨b, o, spot⟩ : Addr).add 0 = ⟨b, o, spot⟩ := by simp [Addr.add]
        rw [e0] at c0
        unfold World.cell? at c0
        split at c0
        · rename_i hb
          by_cases hs : spot.isSome = true
          · simp [hs] at c0
          · refine ⟨by cases spot <;> simp_all, ?_⟩
            rcases Nat.lt_or_ge b W.heap.size with hlt | hge
            · exact hlt
            · rw [Array.getElem?_eq_none (by simpa using hge)] at hb; cases hb
        · cases c0
      obtain ⟨rfl, hb⟩ := hspot
      refine ⟨.sl64 (l.take len), ?_, .inr (.inr ⟨l.take len, rfl, by simp; omega⟩)⟩
      simp only [lies]
      refine ⟨b, o, cap, by simp; omega, hb, by simp; omega, fun j hj => ?_, fun _ h => by cases h⟩
      have hj' : j < len := by simp at hj; omega
      have := h7 j (by omega)
      have e1 : (⟨b, o, none⟩ : Addr).add j = ⟨b, o + j, none⟩ := by
        unfold Addr.add
        split
        · rename_i h0; simp [h0]
        · rfl
      rw [e1] at this
      rw [this]
      simp [v64, List.getD_eq_getElem?_getD, hj', (show j < l.length by omega)]

/-! Package-level variables -/
theorem ints_of_trod {n : Nat} {e : TypeId} {k : IntKind} {fuel : Nat} {cs : List Value} {l : List Int} {q : List MemPlace} (ht : P.underlying t = some (.array n e)) (he : P.underlying e = some (.int k)) (hc : P.cellsOf e = 1)
    (h : DataW.trod enc P W base spare held fuel t cs = some (.agg (l.map fun i => .lit (.int k i)), q)) : ∀ j, j < l.length → cs[j]? = some (.int k (l.getD j 0)) := by
  obtain ⟨xs, m, _, hx, _, hn, hel⟩ := DataW.trod_array ht h
  intro j hj
  simp only [Prod.mk.injEq, DataW.agg.injEq] at hx
  have hxs : xs.length = l.length := by have := congrArg List.length hx.1; simpa using this.symm
  have h1 := hel j (by omega)
  rw [hc, Nat.mul_one, List.getElem?_eq_getElem (by omega : j < xs.length)] at h1
  obtain ⟨i, e1, e2, _⟩ := DataW.trod_int he h1
  have h2 := congrArg (fun z => z[j]?) hx.1
  simp only [List.getElem?_map, List.getElem?_eq_getElem hj, List.getElem?_eq_getElem (by omega : j < xs.length), Option.map_some, Option.some.injEq] at h2
  rw [e2] at h2
  simp only [DataW.lit.injEq, Lit.int.injEq, true_and] at h2
  have h3 : (cs.drop j).head? = some (.int k i) := by
    cases hd : cs.drop j with
    | nil => rw [hd] at e1; simp at e1
    | cons a b => rw [hd] at e1; simp at e1; simp [e1]
  rw [List.head?_drop] at h3
  rw [h3, List.getD_eq_getElem?_getD, List.getElem?_eq_getElem hj]
  simp [h2]
end
end Go.Ev

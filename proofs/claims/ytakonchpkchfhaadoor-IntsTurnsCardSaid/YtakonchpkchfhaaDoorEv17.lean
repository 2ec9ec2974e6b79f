/-
  Part of the proof; what its functions and lemmas say stands in the text.
-/
import Derived.Test.YtakonchpkchfhaaDoorEv16
set_option linter.unusedSimpArgs false
set_option linter.unusedVariables false
/-!
A region whose order is open: every order comes to the same.
-/
namespace Go.Ev
open Go.RowKit

theorem getD_true_false {listed : Array Bool} {i : Nat} (h : i < listed.size) : listed.getD i true = listed.getD i false := by
  simp [h]

section
variable {P : Program} {G : List (Nat × SV)} {sp : Table} {w0 : World} {ops : List Oper} {n : Nat} {rows0 : Rows} {k0 : Nat} {tmps0 : List SV} {outs : List Out}

/-- The state when just these operations of the first n have been carried out. -/
structure SInv (w0 : World) (ops : List Oper) (n : Nat) (rows0 : Rows) (k0 : Nat) (tmps0 : List SV) (outs : List Out) (listed : Array Bool) (L : List (Option Loc)) (R : Rows) (a : Act) (w : World) : Prop where
  defers : a.defers = []
  size : a.tmps.size = tmps0.length
  new : ∀ (j : Nat) (o : Oper) (x : Out) (u : Nat), j < n → listed.getD j false = true → ops[j]? = some o → outs[j]? = some x → o.dst = some u → u < tmps0.length → ∃ v, a.tmps[u]? = some v ∧ rep L x.1 v
  old : ∀ u, u < tmps0.length → (∀ (j : Nat) (o : Oper), j < n → listed.getD j false = true → ops[j]? = some o → o.dst ≠ some u) → ∃ v, a.tmps[u]? = some v ∧ rep L (tmps0.getD u .any) v
  rows : RowsOK w0 L R w
  len : R.length = rows0.length
  row : ∀ idx, R[idx]? = if k0 ≤ idx ∧ idx < k0 + n ∧ listed.getD (idx - k0) false = true then rowAt outs rows0 k0 idx else rows0[idx]?
  free : ∀ idx, k0 ≤ idx → idx < R.length → (idx < k0 + n → listed.getD (idx - k0) false = false) → lo L idx = none

def CInv (w0 : World) (ops : List Oper) (n : Nat) (rows0 : Rows) (k0 : Nat) (tmps0 : List SV) (outs : List Out) (listed : Array Bool) (a : Act) (w : World) : Prop :=
  HeadInv .any ops.toArray n listed ∧ ∃ L R, SInv w0 ops n rows0 k0 tmps0 outs listed L R a w

theorem waits_listed {listed : Array Bool} {j i : Nat} (hr : j ∈ Region.ready .any ops.toArray listed) (hw : Region.waitsFor .any ops.toArray j i = true) : listed.getD i false = true := by
  obtain ⟨_, oj, hoj, hall⟩ := mem_ready.1 hr
  obtain ⟨o', ho', e, he, hb, hon⟩ := Region.waitsFor_spec hw
  have : o' = oj := Option.some.inj (ho'.symm.trans hoj)
  subst this
  have := hall e he hb
  rw [hon] at this; exact this

theorem getD_set_self {listed : Array Bool} {i : Nat} (h : i < listed.size) : (listed.setIfInBounds i true).getD i false = true := by
  simp [h]
theorem getD_set_other {listed : Array Bool} {i j : Nat} (h : j ≠ i) : (listed.setIfInBounds i true).getD j false = listed.getD j false := by
  have : i ≠ j := fun e => h e.symm
  simp [Array.getD_eq_getD_getElem?, this]

theorem step_inv (hG : Glob G w0) (hs : HeadSpec ops n) (hn : n ≤ ops.length) (hgoods : Goods P G ops rows0 k0 tmps0 (ops.take n) outs) (hrows0 : ∀ idx, k0 ≤ idx → idx < rows0.length → rows0[idx]? = some none) (hfit : k0 + n ≤ rows0.length)
    {listed : Array Bool} {a : Act} {w : World} (hinv : CInv w0 ops n rows0 k0 tmps0 outs listed a w) {i : Nat} (hi : i ∈ Region.ready .any ops.toArray listed) (hin : i < n) (Q : Exit → Act → World → Prop) :
    wpOp P ops.toArray Q i (CInv w0 ops n rows0 k0 tmps0 outs (listed.setIfInBounds i true)) a w := by
  obtain ⟨hh, L, R, inv⟩ := hinv
  obtain ⟨hun, o, ho', hall⟩ := mem_ready.1 hi
  have ho : ops[i]? = some o := by simpa using ho'
  have hisz : i < listed.size := by rw [hh.size]; simp; omega
  have hlen : outs.length = n := by rw [hgoods.length]; simp; omega
  have hot : (ops.take n)[i]? = some o := by rw [List.getElem?_take, if_pos hin]; exact ho
  obtain ⟨x, hx, hgood⟩ := hgoods.get i o hot
  have htake : (ops.take n).take i = ops.take i := by rw [List.take_take, Nat.min_eq_left (by omega)]
  rw [htake] at hgood
  -- what the slots that the operation reads hold
  have slot : ∀ u, (∀ (i' : Nat) (oi : Oper), i' < n → ops[i']? = some oi → oi.dst = some u → i' < i ∧ Region.waitsFor .any ops.toArray i i' = true) → u < tmps0.length →
      ∃ v, a.tmps[u]? = some v ∧ rep L ((putAll tmps0 (ops.take i) (outs.take i)).getD u .any) v := by
    intro u hu hlt
    by_cases hex : ∃ j oj, j < n ∧ ops[j]? = some oj ∧ oj.dst = some u
    · obtain ⟨j, oj, hj, hoj, hd⟩ := hex
      obtain ⟨hji, hwait⟩ := hu j oj hj hoj hd
      have hlj := waits_listed hi hwait
      obtain ⟨y, hy⟩ : ∃ y, outs[j]? = some y := by
        have : j < outs.length := by omega
        exact ⟨outs[j], List.getElem?_eq_getElem this⟩
      obtain ⟨v, h1, h2⟩ := inv.new j oj y u hj hlj hoj hy hd hlt
      refine ⟨v, h1, ?_⟩
      rw [putAll_new (ops.take i) (outs.take i) tmps0 j oj y hlt (by rw [List.getElem?_take, if_pos hji]; exact hoj) (by rw [List.getElem?_take, if_pos hji]; exact hy) hd (fun m om hm hom hdm => by
        rw [List.getElem?_take] at hom
        split at hom
        · exact hm (hs.uniq m j om oj u (by omega) hj hom hoj hdm hd)
        · cases hom)]
      exact h2
    · have hno : ∀ (j : Nat) (oj : Oper), j < n → ops[j]? = some oj → oj.dst ≠ some u := fun j oj hj hoj hd => hex ⟨j, oj, hj, hoj, hd⟩
      obtain ⟨v, h1, h2⟩ := inv.old u hlt fun j oj hj _ hoj => hno j oj hj hoj
      refine ⟨v, h1, ?_⟩
      rw [putAll_old _ _ _ (fun o2 ho2 => by
        obtain ⟨m, hm, e⟩ := List.mem_iff_getElem.1 ho2
        simp only [List.length_take] at hm
        refine hno m o2 (by omega) ?_
        rw [List.getElem_take] at e
        rw [List.getElem?_eq_getElem (by omega), e])]
      exact h2
  have operand : ∀ y ∈ o.op.operands, rep L (operandSV (putAll tmps0 (ops.take i) (outs.take i)) y) (a.eval y) := by
    intro y hy
    cases y with
    | tmp u =>
      simp only [operandSV, Act.eval]
      rcases Nat.lt_or_ge u tmps0.length with hlt | hge
      · obtain ⟨v, h1, h2⟩ := slot u (fun i' oi hi' hoi hd => hs.read i o hin ho u hy i' oi hi' hoi hd) hlt
        have : a.tmps.getD u undef = v := by simp [Array.getD_eq_getD_getElem?, h1]
        rw [this]; exact h2
      · rw [List.getD_eq_getElem?_getD, List.getElem?_eq_none (by rw [putAll_length]; exact hge)]
        simp [rep]
    | const v => simp only [operandSV, Act.eval]; exact rep_ofValue L v
    | global g => simp only [operandSV, Act.eval, rep]
    | func f => simp only [operandSV, Act.eval, rep]; exact ⟨[], rfl, by simp [reps]⟩
  have wants : ∀ b, Wants ops (putAll tmps0 (ops.take i) (outs.take i)) o b → Region.wanted o (yielded ops.toArray a.tmps) = b := by
    intro b hb
    unfold Wants at hb
    unfold Region.wanted
    split at hb
    · rename_i hg; rw [hg, hb]
    · rename_i g want hg
      obtain ⟨t, h1, hb⟩ := hb
      obtain ⟨hgi, hgw⟩ := hs.guard i o hin ho g want hg
      rw [hg]
      simp only [yielded]
      have h1' : (ops.toArray[g]?).bind (·.dst) = some t := by simpa using h1
      rw [h1']
      cases hog : ops[g]? with
      | none => rw [hog] at h1; cases h1
      | some og =>
        rw [hog] at h1
        simp only [Option.bind_some] at h1
        have hlt : t < tmps0.length := by
          rcases Nat.lt_or_ge t tmps0.length with h' | h'
          · exact h'
          · rw [List.getD_eq_getElem?_getD, List.getElem?_eq_none (by rw [putAll_length]; exact h')] at hb
            rcases hb with ⟨c, h2, _⟩ | ⟨h2, _⟩ <;> cases h2
        obtain ⟨v, h4, h5⟩ := slot t (fun i' oi hi' hoi hd => by
          have := hs.uniq i' g oi og t hi' (by omega) hoi hog hd h1
          subst this
          exact ⟨hgi, hgw⟩) hlt
        rcases hb with ⟨c, h2, h3⟩ | ⟨h2, h3⟩
        · rw [h2] at h5
          simp only [rep] at h5; subst h5
          simp only [Option.bind_some, h4]
          rw [← h3]
          cases c <;> cases want <;> rfl
        · rw [h2] at h5
          simp only [rep] at h5; subst h5
          simp only [Option.bind_some, h4]
          rw [h3]
          cases want <;> rfl
  -- the state behind it
  have next : ∀ (L' : List (Option Loc)) (v : Value) (w' : World), Ext (k0 + i) L L' → rep L' x.1 v → RowsOK w0 L' (setRow R (k0 + i) x.2) w' → CInv w0 ops n rows0 k0 tmps0 outs (listed.setIfInBounds i true) (a.put o.dst v) w' := by
    intro L' v w' hext hrep hrows
    have hki : k0 + i < R.length := by rw [inv.len]; omega
    refine ⟨hh.set hi hin, L', setRow R (k0 + i) x.2, ⟨by rw [put_defers]; exact inv.defers, ?_, ?_, ?_, hrows, by rw [setRow_length]; exact inv.len, ?_, ?_⟩⟩
    · cases o.dst <;> simp [Act.put, inv.size]
    · intro j oj y u hj hl hoj hy hd hlt
      by_cases hji : j = i
      · subst hji
        rw [ho] at hoj; cases hoj
        rw [hx] at hy; cases hy
        rw [hd]
        exact ⟨v, by simp [Act.put, inv.size, hlt], hrep⟩
      · rw [getD_set_other hji] at hl
        obtain ⟨u', h1, h2⟩ := inv.new j oj y u hj hl hoj hy hd hlt
        refine ⟨u', ?_, rep_mono hext.mono h2⟩
        cases hdo : o.dst with
        | none => exact h1
        | some d =>
          have : d ≠ u := fun e => hji (hs.uniq j i oj o u hj hin hoj ho hd (by rw [hdo, e]))
          simp only [Act.put]
          rw [Array.getElem?_setIfInBounds, if_neg this]; exact h1
    · intro u hlt hno
      have hdne : o.dst ≠ some u := hno i o hin (getD_set_self hisz) ho
      obtain ⟨u', h1, h2⟩ := inv.old u hlt fun j oj hj hl hoj => hno j oj hj (by
        by_cases hji : j = i
        · subst hji; exact getD_set_self hisz
        · rw [getD_set_other hji]; exact hl) hoj
      refine ⟨u', ?_, rep_mono hext.mono h2⟩
      cases hdo : o.dst with
      | none => exact h1
      | some d =>
        have : d ≠ u := fun e => hdne (by rw [hdo, e])
        simp only [Act.put]
        rw [Array.getElem?_setIfInBounds, if_neg this]; exact h1
    · intro idx
      by_cases hidx : idx = k0 + i
      · subst hidx
        rw [if_pos ⟨by omega, by omega, by rw [Nat.add_sub_cancel_left]; exact getD_set_self hisz⟩]
        have hold := inv.row (k0 + i)
        rw [if_neg (by rw [Nat.add_sub_cancel_left]; intro h; have := getD_both hun; rw [h.2.2] at this; cases this)] at hold
        unfold rowAt
        rw [if_pos (by omega), Nat.add_sub_cancel_left, hx]
        obtain ⟨s, row⟩ := x
        cases row with
        | none => simp only [setRow]; exact hold
        | some con => simp only [setRow]; rw [List.getElem?_set]; simp [hki]
      · have e1 : (setRow R (k0 + i) x.2)[idx]? = R[idx]? := by
          cases x.2 with
          | none => rfl
          | some con => simp only [setRow]; rw [List.getElem?_set, if_neg (fun e => hidx e.symm)]
        rw [e1, inv.row idx]
        by_cases hk : k0 ≤ idx
        · have : idx - k0 ≠ i := by omega
          rw [getD_set_other this]
        · rw [if_neg (by omega), if_neg (by omega)]
    · intro idx hk hlt hfree
      rw [setRow_length] at hlt
      have hne : idx ≠ k0 + i := by
        intro e
        have := hfree (by omega)
        rw [e, Nat.add_sub_cancel_left, getD_set_self hisz] at this
        cases this
      rw [hext.other idx hne]
      refine inv.free idx hk hlt fun h => ?_
      have := hfree h
      rwa [getD_set_other (by omega)] at this
  unfold wpOp
  rw [ho']
  simp only []
  rcases hgood with ⟨hw, hq⟩ | ⟨hw, hx0⟩
  · rw [if_pos (wants true hw)]
    refine .inl ?_
    refine hq w0 o rfl L a w R operand inv.rows (fun r row hr => ?_) (fun _ => ⟨by rw [inv.len]; omega, inv.free (k0 + i) (by omega) (by rw [inv.len]; omega) fun _ => by rw [Nat.add_sub_cancel_left]; exact getD_both hun⟩) hG inv.defers _ Q fun v w' ⟨L', e1, e2, e3⟩ => next L' v w' e1 e2 e3
    rw [inv.row r]
    split
    · rename_i hc
      have hlt : r < rows0.length := by omega
      rw [hrows0 r hc.1 hlt] at hr; cases hr
    · exact hr
  · rw [if_neg (by rw [wants false hw]; simp)]
    refine next L undef w (Ext.refl _ L) (by rw [hx0]; simp only [rep]) ?_
    rw [hx0]; exact inv.rows

/-- How many are to come. -/
def todo (n : Nat) (listed : Array Bool) : Nat := ((List.range n).filter fun i => !listed.getD i false).length

theorem todo_set {n i : Nat} {listed : Array Bool} (hi : i < n) (hs : i < listed.size) (hun : listed.getD i false = false) : todo n listed = todo n (listed.setIfInBounds i true) + 1 := by
  unfold todo
  have key : ∀ m, ((List.range m).filter fun j => !listed.getD j false).length = ((List.range m).filter fun j => !(listed.setIfInBounds i true).getD j false).length + if i < m then 1 else 0 := by
    intro m
    induction m with
    | zero => simp
    | succ m ih =>
      rw [List.range_succ, List.filter_append, List.filter_append, List.length_append, List.length_append, ih]
      by_cases hm : m = i
      · subst hm
        rw [if_neg (by omega), if_pos (by omega)]
        simp only [List.filter_cons, List.filter_nil, hun, getD_set_self hs]
        simp
      · have e : (listed.setIfInBounds i true).getD m false = listed.getD m false := getD_set_other hm
        simp only [List.filter_cons, List.filter_nil, e]
        by_cases h1 : i < m
        · have e2 : (if i < m then 1 else 0 : Nat) = 1 := if_pos h1
          have e3 : (if i < m + 1 then 1 else 0 : Nat) = 1 := if_pos (by omega)
          rw [e2, e3]; omega
        · have e2 : (if i < m then 1 else 0 : Nat) = 0 := if_neg h1
          have e3 : (if i < m + 1 then 1 else 0 : Nat) = 0 := if_neg (by omega)
          rw [e2, e3]; omega
  have := key n
  rw [if_pos hi] at this
  exact this

theorem todo_zero {n : Nat} {listed : Array Bool} (h : todo n listed = 0) : ∀ i, i < n → listed.getD i false = true := by
  intro i hi
  unfold todo at h
  have h1 : ((List.range n).filter fun i => !listed.getD i false) = [] := List.eq_nil_of_length_eq_zero h
  have h2 := List.filter_eq_nil_iff.1 h1 i (List.mem_range.2 hi)
  simpa using h2

theorem any_order (hG : Glob G w0) (hs : HeadSpec ops n) (hn : n ≤ ops.length) (hgoods : Goods P G ops rows0 k0 tmps0 (ops.take n) outs) (hrows0 : ∀ idx, k0 ≤ idx → idx < rows0.length → rows0[idx]? = some none) (hfit : k0 + n ≤ rows0.length)
    (htail : n < ops.length → Region.sinkB .any ops.toArray n = true ∧ Region.chainB .any ops.toArray n = true) {Q : Exit → Act → World → Prop}
    (hfin : ∀ listed a w, CInv w0 ops n rows0 k0 tmps0 outs listed a w → todo n listed = 0 → wpAny P .any ops.toArray Q (ops.length - n) listed a w) :
    ∀ (f : Nat) (listed : Array Bool) (a : Act) (w : World), todo n listed = f → CInv w0 ops n rows0 k0 tmps0 outs listed a w → wpAny P .any ops.toArray Q (f + (ops.length - n)) listed a w := by
  intro f
  induction f with
  | zero => intro listed a w hf hinv; rw [Nat.zero_add]; exact hfin listed a w hinv hf
  | succ f ih =>
    intro listed a w hf hinv
    have hh := hinv.1
    -- the least that is not yet done is ready
    have least : ∃ i, i < n ∧ i ∈ Region.ready .any ops.toArray listed := by
      have hex : ∃ i, i < n ∧ listed.getD i false = false := by
        refine Classical.byContradiction fun hno => ?_
        have : ((List.range n).filter fun i => !listed.getD i false) = [] := List.filter_eq_nil_iff.2 fun i hi => by
          have := List.mem_range.1 hi
          cases hl : listed.getD i false with
          | true => simp
          | false => exact absurd ⟨i, this, hl⟩ hno
        unfold todo at hf
        rw [this] at hf; cases hf
      have : ∀ (m : Nat), (∃ i, i ≤ m ∧ i < n ∧ listed.getD i false = false) → ∃ i, i < n ∧ listed.getD i false = false ∧ ∀ j, j < i → listed.getD j false = true := by
        intro m
        induction m with
        | zero => rintro ⟨i, h1, h2, h3⟩; exact ⟨i, h2, h3, fun j hj => by omega⟩
        | succ m ihm =>
          rintro ⟨i, h1, h2, h3⟩
          by_cases hc : ∃ i, i ≤ m ∧ i < n ∧ listed.getD i false = false
          · exact ihm hc
          · refine ⟨i, h2, h3, fun j hj => ?_⟩
            cases hl : listed.getD j false with
            | true => rfl
            | false => exact absurd ⟨j, by omega, by omega, hl⟩ hc
      obtain ⟨i0, h1, h2⟩ := hex
      obtain ⟨i, hi, hl, hbelow⟩ := this i0 ⟨i0, Nat.le_refl _, h1, h2⟩
      refine ⟨i, hi, mem_ready.2 ⟨getD_in (by rw [hh.size]; simp; omega) hl, ops[i]'(by omega), by simp, fun e he hb => ?_⟩⟩
      exact hbelow e.on (hs.edge i _ hi (List.getElem?_eq_getElem (by omega)) e he hb)
    rw [show f + 1 + (ops.length - n) = (f + (ops.length - n)) + 1 by omega]
    obtain ⟨i0, hi0, hr0⟩ := least
    refine ⟨fun h0 => (by rw [h0] at hr0; cases hr0), fun i hi => ?_⟩
    have hin : i < n := by
      rcases Nat.lt_or_ge i n with h | h
      · exact h
      · obtain ⟨_, o, ho, _⟩ := mem_ready.1 hi
        have hisz : i < ops.length := by
          have := (Array.getElem?_eq_some_iff.1 ho).1
          simpa using this
        have hnlt : n < ops.length := by omega
        obtain ⟨t1, t2⟩ := htail hnlt
        exact absurd hi (tail_waits t1 t2 (by simpa using hnlt) hh (n - i0) i0 rfl hi0 (mem_ready.1 hr0).1 i h)
    have hun := (mem_ready.1 hi).1
    have hisz : i < listed.size := by rw [hh.size]; simp; omega
    refine wpOp_mono (fun a' w' h' => ih _ a' w' ?_ h') (step_inv hG hs hn hgoods hrows0 hfit hinv hi hin Q)
    have := todo_set hin hisz (getD_both hun)
    omega
end
end Go.Ev

/-
  Part of the proof; what its functions and lemmas say stands in the text.
-/
import Derived.Test.YtakonchpkchfhaaDoorEv17
set_option linter.unusedSimpArgs false
set_option linter.unusedVariables false
/-!
Code: regions, branches, blocks, loops.
-/
namespace Go.Ev
open Go.RowKit

def headLen : List Oper → Nat
  | [] => 0
  | o :: l => if isS o.op then 0 else headLen l + 1

def drawOps (P : Program) (G : List (Nat × SV)) (sp : Table) (ops : List Oper) (k0 : Nat) (st : St) (K : St → Option D) : Option D :=
  if headOK ops (headLen ops) && tailOK ops (headLen ops) then
    preOps P G sp ops st.rows (ops.take (headLen ops)) k0 st.tmps st.rows (fun tmps rows => seqOps P G sp ops (ops.drop (headLen ops)) (k0 + headLen ops) ⟨tmps, rows⟩ K)
  else none

theorem headLen_le : ∀ (l : List Oper), headLen l ≤ l.length
  | [] => Nat.le_refl _
  | o :: l => by
    simp only [headLen]
    split
    · omega
    · simp only [List.length_cons]; have := headLen_le l; omega

section
variable {P : Program} {G : List (Nat × SV)} {sp : Table}

theorem rowsAll_length : ∀ (outs : List Out) (rows : Rows) (k : Nat), (rowsAll rows k outs).length = rows.length
  | [], _, _ => rfl
  | x :: outs, rows, k => by simp only [rowsAll]; rw [rowsAll_length outs, setRow_length]

theorem drawOps_ok (hsp : TableOK P G sp) (hm : P.follows .mixedOrders = true) {ops : List Oper} {id k0 : Nat} {st : St} {K : St → Option D} {r : D} (h : drawOps P G sp ops k0 st K = some r) :
    ∃ st', K st' = some r ∧ ∀ (w0 : World) (L : List (Option Loc)) (a : Act) (w : World), Glob G w0 → Rel w0 L st a w → Free L st.rows k0 → k0 + ops.length = st.rows.length → (∀ idx, k0 ≤ idx → idx < st.rows.length → st.rows[idx]? = some none) →
      ∀ (Q : Exit → Act → World → Prop), (∀ L' a' w', Rel w0 L' st' a' w' → Q .normal a' w') → (Code.region id ops.toArray true).wp P Q a w := by
  unfold drawOps at h
  split at h
  · rename_i hok
    rw [Bool.and_eq_true] at hok
    obtain ⟨hhead, htail⟩ := hok
    have hs := headOK_spec hhead
    obtain ⟨outs, hgoods, hK⟩ := preOps_ok hsp _ _ _ _ _ _ h
    obtain ⟨st', h1, h2, h3⟩ := seqOps_ok hsp _ _ _ _ _ hK
    have hnl := headLen_le ops
    have hol : outs.length = headLen ops := by rw [hgoods.length]; simp; omega
    refine ⟨st', h1, fun w0 L a w hG hrel hfree hlen hnone Q hQ => ?_⟩
    refine wp_region_any hm ?_
    have tl : headLen ops < ops.length → Region.sinkB .any ops.toArray (headLen ops) = true ∧ Region.chainB .any ops.toArray (headLen ops) = true ∧ Region.seqB .any ops.toArray (ops.length - headLen ops) (headLen ops) (listedN (headLen ops) ops.length) = true := by
      intro hlt
      unfold tailOK at htail
      rw [if_pos hlt, Bool.and_eq_true, Bool.and_eq_true] at htail
      exact ⟨htail.1.1, htail.1.2, htail.2⟩
    have hinit : CInv w0 ops (headLen ops) st.rows k0 st.tmps outs (Array.replicate ops.length false) a { w with drawn := w.drawn + 1 } := by
      have hl : ∀ j, (Array.replicate ops.length false).getD j false = false := fun j => getD_replicate_false _ _
      refine ⟨⟨by simp, fun j oj _ hlj => (by rw [hl] at hlj; cases hlj), fun t ht htt => getD_in (by simpa using htt) (hl t)⟩, L, st.rows, ⟨hrel.defers, ?_, ?_, ?_, hrel.rows.drew, rfl, ?_, ?_⟩⟩
      · have := reps_length hrel.tmps; simpa using this
      · intro j o x u _ hlj; rw [hl] at hlj; cases hlj
      · intro u hu _
        obtain ⟨v, h4, h5⟩ := reps_get hrel.tmps u hu
        exact ⟨v, by simpa using h4, h5⟩
      · intro idx; rw [if_neg (by rw [hl]; simp)]
      · intro idx hk hlt _; exact hfree idx hk hlt
    have hsize : ops.toArray.size = ops.length := by simp
    have key := any_order (P := P) (G := G) (Q := Q) hG hs hnl hgoods hnone (by omega) (fun hlt => ⟨(tl hlt).1, (tl hlt).2.1⟩) (fun listed a' w' hinv hdone => ?_) (todo (headLen ops) (Array.replicate ops.length false)) _ a _ rfl hinit
    · have ht : todo (headLen ops) (Array.replicate ops.length false) = headLen ops := by
        unfold todo
        rw [List.filter_eq_self.2 (fun i _ => by rw [getD_replicate_false]; rfl)]
        simp
      rw [ht] at key
      rw [hsize]
      rw [show ops.length = headLen ops + (ops.length - headLen ops) by omega]
      rw [show headLen ops + (ops.length - headLen ops) = ops.length by omega] 
      rw [show headLen ops + (ops.length - headLen ops) = ops.length by omega] at key
      exact key
    · obtain ⟨hh, L', R, inv⟩ := hinv
      have hall := todo_zero hdone
      have hR : R = rowsAll st.rows k0 outs := by
        apply List.ext_getElem?
        intro idx
        rw [rowsAll_get outs st.rows k0 idx (by omega), inv.row idx]
        split
        · rfl
        · rename_i hc
          unfold rowAt
          split
          · rename_i hk
            have : outs[idx - k0]? = none := by
              rcases Nat.lt_or_ge (idx - k0) (headLen ops) with hlt | hge
              · exact absurd ⟨hk, by omega, hall _ hlt⟩ hc
              · exact List.getElem?_eq_none (by omega)
            rw [this]
          · rfl
      have hrel' : Rel w0 L' ⟨putAll st.tmps (ops.take (headLen ops)) outs, rowsAll st.rows k0 outs⟩ a' w' := by
        refine ⟨inv.defers, ?_, by rw [← hR]; exact inv.rows⟩
        refine reps_of_get (by rw [putAll_length]; have := inv.size; simpa using this) fun u hu => ?_
        rw [putAll_length] at hu
        by_cases hex : ∃ j oj, j < headLen ops ∧ ops[j]? = some oj ∧ oj.dst = some u
        · obtain ⟨j, oj, hj, hoj, hd⟩ := hex
          obtain ⟨y, hy⟩ : ∃ y, outs[j]? = some y := ⟨outs[j], List.getElem?_eq_getElem (by omega)⟩
          obtain ⟨v, h4, h5⟩ := inv.new j oj y u hj (hall j hj) hoj hy hd hu
          refine ⟨v, by simpa using h4, ?_⟩
          rw [putAll_new (ops.take (headLen ops)) outs st.tmps j oj y hu (by rw [List.getElem?_take, if_pos hj]; exact hoj) hy hd (fun m om hm hom hdm => by
            rw [List.getElem?_take] at hom
            split at hom
            · rename_i hml; exact hm (hs.uniq m j om oj u hml hj hom hoj hdm hd)
            · cases hom)]
          exact h5
        · obtain ⟨v, h4, h5⟩ := inv.old u hu fun j oj hj _ hoj hd => hex ⟨j, oj, hj, hoj, hd⟩
          refine ⟨v, by simpa using h4, ?_⟩
          rw [putAll_old _ _ _ (fun o2 ho2 => by
            obtain ⟨m, hm, e⟩ := List.mem_iff_getElem.1 ho2
            simp only [List.length_take] at hm
            rw [List.getElem_take] at e
            exact fun hd => hex ⟨m, o2, by omega, by rw [List.getElem?_eq_getElem (by omega), e], hd⟩)]
          exact h5
      have hfree' : Free L' (rowsAll st.rows k0 outs) (k0 + headLen ops) := by
        intro idx h4 h5
        rw [← hR] at h5
        exact inv.free idx (by omega) h5 fun h6 => by omega
      have hwp := h3 w0 L' a' w' hG hrel' hfree' (by simp only [rowsAll_length, List.length_drop]; omega) Q (fun L2 a2 w2 hr2 _ => hQ L2 a2 w2 hr2)
      rcases Nat.lt_or_ge (headLen ops) ops.length with hlt | hge
      · have hlisted : listed = listedN (headLen ops) ops.length := by
          apply Array.ext'
          apply List.ext_getElem?
          intro i
          have hsz : listed.size = ops.length := by rw [hh.size]; simp
          rcases Nat.lt_or_ge i ops.length with hi | hi
          · have e1 : listed.toList[i]? = some (listed.getD i false) := by
              have : i < listed.toList.length := by simpa [hsz] using hi
              rw [List.getElem?_eq_getElem this]
              simp [Array.getD_eq_getD_getElem?, hsz, hi]
            rw [e1]
            rcases Nat.lt_or_ge i (headLen ops) with hin | hin
            · rw [hall i hin]
              simp only [listedN]
              rw [List.getElem?_append_left (by simpa using hin)]
              simp [hin]
            · have := getD_both (hh.tail i hin (by simpa using hi))
              rw [this]
              simp only [listedN]
              rw [List.getElem?_append_right (by simpa using hin), List.length_replicate, List.getElem?_replicate, if_pos (by omega)]
          · rw [List.getElem?_eq_none (by simpa [hsz] using hi), List.getElem?_eq_none (by simp [listedN]; omega)]
        rw [hlisted]
        have := wpAny_of_seq (P := P) (md := .any) (Q' := Q) (ops.drop (headLen ops)) (headLen ops) (listedN (headLen ops) ops.length) a' w' (fun j => by simp) (by rw [List.length_drop]; exact (tl hlt).2.2) hwp
        rw [List.length_drop] at this
        exact this
      · have e0 : ops.length - headLen ops = 0 := by omega
        rw [e0]
        have hd : ops.drop (headLen ops) = [] := List.drop_eq_nil_of_le hge
        rw [hd] at hwp
        refine ⟨?_, hwp⟩
        unfold Region.ready
        refine List.filter_eq_nil_iff.2 fun i hi => ?_
        have hi' : i < ops.length := by simpa using List.mem_range.1 hi
        have : listed.getD i true = true := by
          have hsz : listed.size = ops.length := by rw [hh.size]; simp
          rw [getD_true_false (by omega)]; exact hall i (by omega)
        rw [this]; simp
  · cases h
end

/-! ### At the head of a loop: what is kept, under new numbers -/
mutual
def refs : SV → List Nat
  | .ptr r _ => [r]
  | .sl r _ _ => [r]
  | .agg l => refsL l
  | .tup l => refsL l
  | .clo _ l => refsL l
  | _ => []
def refsL : List SV → List Nat
  | [] => []
  | s :: l => refs s ++ refsL l
end
def memN (n : Nat) : List Nat → Bool
  | [] => false
  | m :: l => if n = m then true else memN n l
def dedup : List Nat → List Nat → List Nat
  | [], acc => acc
  | n :: l, acc => if memN n acc then dedup l acc else dedup l (acc ++ [n])
def posN (n : Nat) : List Nat → Nat → Option Nat
  | [], _ => none
  | m :: l, i => if n = m then some i else posN n l (i + 1)
mutual
def ren (m : List Nat) : SV → SV
  | .ptr r off => match posN r m 0 with | some j => .ptr j off | none => .any
  | .sl r off len => match posN r m 0 with | some j => .sl j off len | none => .any
  | .agg l => .agg (renL m l)
  | .tup l => .tup (renL m l)
  | .clo f l => .clo f (renL m l)
  | s => s
def renL (m : List Nat) : List SV → List SV
  | [] => []
  | s :: l => ren m s :: renL m l
end
def keepT (keep : List Nat) (m : List Nat) : Nat → List SV → List SV
  | _, [] => []
  | i, s :: l => (if memN i keep then ren m s else .any) :: keepT keep m (i + 1) l
def keptRefs (keep : List Nat) : Nat → List SV → List Nat
  | _, [] => []
  | i, s :: l => (if memN i keep then refs s else []) ++ keptRefs keep (i + 1) l
def rowRefs (rows : Rows) : List Nat → List Nat
  | [] => []
  | r :: l => (match rows[r]? with | some (some row) => refs row.con | _ => []) ++ rowRefs rows l
def grow (rows : Rows) : Nat → List Nat → List Nat
  | 0, m => m
  | n + 1, m => grow rows n (dedup (rowRefs rows m) m)
def rowsAt (rows : Rows) (m : List Nat) : List Nat → Rows
  | [] => []
  | r :: l => (match rows[r]? with | some (some row) => some ⟨ren m row.con, row.own⟩ | _ => none) :: rowsAt rows m l
def canon (keep : List Nat) (st : St) : St :=
  let m := grow st.rows 4 (dedup (keptRefs keep 0 st.tmps) [])
  ⟨keepT keep m 0 st.tmps, rowsAt st.rows m m⟩

theorem memN_iff {n : Nat} : ∀ {l : List Nat}, memN n l = true ↔ n ∈ l
  | [] => by simp [memN]
  | m :: l => by
    simp only [memN, List.mem_cons]
    split
    · rename_i e; simp [e]
    · rename_i e; rw [memN_iff]; simp [e]
theorem dedup_nodup : ∀ (l acc : List Nat), acc.Nodup → (dedup l acc).Nodup
  | [], _, h => h
  | n :: l, acc, h => by
    simp only [dedup]
    split
    · exact dedup_nodup l acc h
    · rename_i hn
      refine dedup_nodup l _ ?_
      rw [List.nodup_append]
      refine ⟨h, by simp, fun a ha b hb => ?_⟩
      simp only [List.mem_singleton] at hb
      subst hb
      exact fun e => hn (memN_iff.2 (e ▸ ha))
theorem grow_nodup (rows : Rows) : ∀ (n : Nat) (m : List Nat), m.Nodup → (grow rows n m).Nodup
  | 0, _, h => h
  | n + 1, m, h => grow_nodup rows n _ (dedup_nodup _ m h)

theorem posN_ok {n : Nat} : ∀ {l : List Nat} {i j : Nat}, posN n l i = some j → i ≤ j ∧ l[j - i]? = some n
  | [], _, _, h => by cases h
  | m :: l, i, j, h => by
    simp only [posN] at h
    split at h
    · rename_i e; simp only [Option.some.injEq] at h; subst h; subst e; simp
    · obtain ⟨h1, h2⟩ := posN_ok h
      exact ⟨by omega, by rw [show j - i = (j - (i + 1)) + 1 by omega]; simpa using h2⟩

def locsAt (L : List (Option Loc)) (m : List Nat) : List (Option Loc) := m.map (lo L)
theorem lo_locsAt {L : List (Option Loc)} {m : List Nat} {j r : Nat} (h : m[j]? = some r) : lo (locsAt L m) j = lo L r := by
  simp [lo, locsAt, h]

mutual
theorem rep_ren {L : List (Option Loc)} (m : List Nat) : ∀ {s : SV} {v : Value}, rep L s v → rep (locsAt L m) (ren m s) v
  | .ptr r off, v, h => by
    simp only [ren]
    split
    · rename_i j hj
      obtain ⟨_, h2⟩ := posN_ok hj
      simp only [rep] at h ⊢
      obtain ⟨o, h3, h4⟩ := h
      exact ⟨o, by rw [lo_locsAt (by simpa using h2)]; exact h3, h4⟩
    · simp only [rep]
  | .sl r off len, v, h => by
    simp only [ren]
    split
    · rename_i j hj
      obtain ⟨_, h2⟩ := posN_ok hj
      simp only [rep] at h ⊢
      obtain ⟨o, cap, h3, h4⟩ := h
      exact ⟨o, cap, by rw [lo_locsAt (by simpa using h2)]; exact h3, h4⟩
    · simp only [rep]
  | .agg l, v, h => by simp only [rep, ren] at h ⊢; obtain ⟨cs, rfl, h⟩ := h; exact ⟨cs, rfl, reps_ren m h⟩
  | .tup l, v, h => by simp only [rep, ren] at h ⊢; obtain ⟨cs, rfl, h⟩ := h; exact ⟨cs, rfl, reps_ren m h⟩
  | .clo f l, v, h => by simp only [rep, ren] at h ⊢; obtain ⟨cs, rfl, h⟩ := h; exact ⟨cs, rfl, reps_ren m h⟩
  | .any, _, _ => by simp only [ren, rep]
  | .bool _, _, h => by simpa only [ren, rep] using h
  | .i _ _, _, h => by simpa only [ren, rep] using h
  | .u8 _, _, h => by simpa only [ren, rep] using h
  | .u16 _, _, h => by simpa only [ren, rep] using h
  | .u32 _, _, h => by simpa only [ren, rep] using h
  | .u64 _, _, h => by simpa only [ren, rep] using h
  | .f _ _, _, h => by simpa only [ren, rep] using h
  | .nan _, _, h => by simpa only [ren, rep] using h
  | .c _, _, h => by simpa only [ren, rep] using h
  | .gl _, _, h => by simpa only [ren, rep] using h
  | .ai _ _, _, h => by simpa only [ren, rep] using h
  | .a8 _, _, h => by simpa only [ren, rep] using h
  | .a64 _, _, h => by simpa only [ren, rep] using h
theorem reps_ren {L : List (Option Loc)} (m : List Nat) : ∀ {l : List SV} {vs : List Value}, reps L l vs → reps (locsAt L m) (renL m l) vs
  | [], _, h => by simpa only [renL, reps] using h
  | s :: l, _, h => by
    simp only [reps, renL] at h ⊢
    obtain ⟨v, t, rfl, hv, h⟩ := h
    exact ⟨v, t, rfl, rep_ren m hv, reps_ren m h⟩
end

theorem reps_keep {L : List (Option Loc)} (keep m : List Nat) : ∀ {l : List SV} {vs : List Value} (i : Nat), reps L l vs → reps (locsAt L m) (keepT keep m i l) vs
  | [], _, _, h => by simpa only [keepT, reps] using h
  | s :: l, _, i, h => by
    simp only [reps, keepT] at h ⊢
    obtain ⟨v, t, rfl, hv, h⟩ := h
    refine ⟨v, t, rfl, ?_, reps_keep keep m (i + 1) h⟩
    split
    · exact rep_ren m hv
    · simp only [rep]

theorem renL_getD (m : List Nat) : ∀ (l : List SV) (j : Nat), (renL m l).getD j .any = ren m (l.getD j .any)
  | [], j => by simp [renL, ren]
  | s :: l, 0 => by simp [renL]
  | s :: l, j + 1 => by simpa [renL] using renL_getD m l j
theorem renL_length (m : List Nat) : ∀ (l : List SV), (renL m l).length = l.length
  | [] => rfl
  | s :: l => by simp [renL, renL_length m l]
theorem ren_len (m : List Nat) (s : SV) : (ren m s).len = s.len := by
  cases s with
  | ptr r off => simp only [ren]; cases posN r m 0 <;> rfl
  | sl r off len => simp only [ren]; cases posN r m 0 <;> rfl
  | agg l => simp only [ren, SV.len]; exact renL_length m l
  | any | bool | i | u8 | u16 | u32 | u64 | f | nan | c | gl | ai | a8 | a64 | tup | clo => simp only [ren, SV.len]
theorem ren_cell (m : List Nat) (s : SV) (j : Nat) (hj : j < s.len) : (ren m s).cell j = ren m (s.cell j) := by
  cases s <;> simp only [SV.len, Nat.not_lt_zero] at hj <;> simp only [ren, SV.cell]
  exact renL_getD m _ j

theorem rowsAt_get {rows : Rows} {m : List Nat} : ∀ {l : List Nat} {j : Nat} {row : Row}, (rowsAt rows m l)[j]? = some (some row) → ∃ r row0, l[j]? = some r ∧ rows[r]? = some (some row0) ∧ row = ⟨ren m row0.con, row0.own⟩
  | [], j, row, h => by simp [rowsAt] at h
  | r :: l, 0, row, h => by
    simp only [rowsAt, List.getElem?_cons_zero, Option.some.injEq] at h
    split at h
    · rename_i row0 hr
      simp only [Option.some.injEq] at h
      exact ⟨r, row0, rfl, hr, h.symm⟩
    · cases h
  | r :: l, j + 1, row, h => by
    simp only [rowsAt, List.getElem?_cons_succ] at h
    simpa using rowsAt_get h
theorem rowsAt_length (rows : Rows) (m : List Nat) : ∀ l : List Nat, (rowsAt rows m l).length = l.length
  | [] => rfl
  | r :: l => by simp [rowsAt, rowsAt_length rows m l]

theorem canon_rel {w0 : World} {L : List (Option Loc)} {st : St} {a : Act} {w : World} (keep : List Nat) (h : Rel w0 L st a w) : ∃ L', Rel w0 L' (canon keep st) a w := by
  unfold canon
  simp only []
  generalize hm : grow st.rows 4 (dedup (keptRefs keep 0 st.tmps) []) = m
  have hnd : m.Nodup := by rw [← hm]; exact grow_nodup _ _ _ (dedup_nodup _ _ List.nodup_nil)
  refine ⟨locsAt L m, h.defers, reps_keep keep m 0 h.tmps, h.rows.below, by simp [locsAt, rowsAt_length], ?_, ?_, ?_, ?_⟩
  · intro j row hj
    obtain ⟨r, row0, h1, h2, rfl⟩ := rowsAt_get hj
    rw [lo_locsAt h1]; exact h.rows.has r row0 h2
  · intro j row o hj ho
    obtain ⟨r, row0, h1, h2, rfl⟩ := rowsAt_get hj
    rw [lo_locsAt h1] at ho
    have ok := h.rows.row r row0 o h2 ho
    refine ⟨by simp only [ren_len]; exact ok.len, ok.blk, fun i hi => ?_, ok.all, ok.free⟩
    simp only [ren_len] at hi
    obtain ⟨v, h3, h4⟩ := ok.cell i hi
    exact ⟨v, h3, by simp only [ren_cell m row0.con i hi]; exact rep_ren m h4⟩
  · intro i j ri rj oi oj hij hi hj hoi hoj hown
    obtain ⟨r, row0, h1, h2, rfl⟩ := rowsAt_get hi
    obtain ⟨s, row1, h3, h4, rfl⟩ := rowsAt_get hj
    rw [lo_locsAt h1] at hoi
    rw [lo_locsAt h3] at hoj
    refine h.rows.sep r s row0 row1 oi oj (fun e => hij ?_) h2 h4 hoi hoj hown
    subst e
    have hi' : i < m.length := by
      rcases Nat.lt_or_ge i m.length with h' | h'
      · exact h'
      · rw [List.getElem?_eq_none h'] at h1; cases h1
    exact (List.getElem?_inj hi' hnd).1 (h1.trans h3.symm)
  · intro j row o hj ho hown
    obtain ⟨r, row0, h1, h2, rfl⟩ := rowsAt_get hj
    rw [lo_locsAt h1] at ho
    exact h.rows.new r row0 o h2 ho hown
end Go.Ev

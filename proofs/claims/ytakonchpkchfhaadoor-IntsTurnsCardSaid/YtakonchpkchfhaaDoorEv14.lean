/-
  Part of the proof; what its functions and lemmas say stands in the text.
-/
import Derived.Test.YtakonchpkchfhaaDoorEv13
set_option linter.unusedSimpArgs false
set_option linter.unusedVariables false
/-!
append.
-/
namespace Go.Ev
open Go.RowKit

/-- Numbers of one kind, from off on, so many. -/
def partS (con : SV) (off m : Nat) : Option SV :=
  match con with
  | .ai k l => some (.ai k ((l.drop off).take m))
  | .a8 l => some (.a8 ((l.drop off).take m))
  | .a64 l => some (.a64 ((l.drop off).take m))
  | _ => none
def catS (con : SV) (n : Nat) (con2 : SV) : Option SV :=
  match con, con2 with
  | .ai k l, .ai k' l2 => if k = k' then some (.ai k (l.take n ++ l2)) else none
  | .a8 l, .a8 l2 => some (.a8 (l.take n ++ l2))
  | .a64 l, .a64 l2 => some (.a64 (l.take n ++ l2))
  | _, _ => none

def bytesT (P : Program) (t : TypeId) : Option Nat := (P.info? t).map (·.bytes)

def evAppend (P : Program) (ρ : Operand → SV) (rows : Rows) (k : Nat) (x y : Operand) (t ty : TypeId) (K : SV → Rows → Option D) : Option D :=
  match P.underlying t, P.underlying ty with
  | some (.slice e), some (.slice _) => match P.underlying e, sizeT P e, bytesT P e, zeroT P e with
    | some d, some size, some bytes, some z => if isZero d z && size == 1 && decide (0 < bytes) then
        match ρ y with
        | .sl r2 off2 m => match rows[r2]? with
          | some (some row2) => match partS row2.con off2 m with
            | some con2 => if off2 + m ≤ row2.con.len then
                match ρ x with
                | .c (.slice none 0 0) => if m = 0 then K (ρ x) rows else if m * bytes ≤ 140737488355328 then K (.sl k 0 m) (rows.set k (some ⟨con2, true⟩)) else none
                | .sl r 0 n => match rows[r]? with
                  | some (some row) => if row.own && !(r == r2) then match catS row.con n con2 with
                      | some con' => if n ≤ row.con.len then if (n + m) * bytes ≤ 140737488355328 then K (.sl k 0 (n + m)) ((rows.set r none).set k (some ⟨con', true⟩)) else none else none
                      | none => none
                    else none
                  | _ => none
                | _ => none
              else none
            | none => none
          | _ => none
        | .c (.slice _ 0 _) => match ρ x with
          | .c (.slice none 0 0) => K (ρ x) rows
          | _ => none
        | _ => none
      else none
    | _, _, _, _ => none
  | _, _ => none

/-- A content as a list of cells. -/
def vals : SV → Option (List Value)
  | .ai k l => some (l.map (vi k))
  | .a8 l => some (l.map v8)
  | .a64 l => some (l.map v64)
  | _ => none
theorem vals_ok {con : SV} {vs : List Value} (h : vals con = some vs) : con.len = vs.length ∧ (∀ v ∈ vs, v.oneCell' = true) ∧ ∀ (L : List (Option Loc)) j u, j < con.len → (rep L (con.cell j) u ↔ vs[j]? = some u) := by
  cases con <;> simp only [vals, reduceCtorEq, Option.some.injEq] at h <;> subst h
  · refine ⟨by simp [SV.len], fun v hv => ?_, fun L j u hj => ?_⟩
    · obtain ⟨x, _, rfl⟩ := List.mem_map.1 hv; rfl
    · simp only [SV.len] at hj
      simp only [SV.cell, rep, List.getElem?_map, List.getElem?_eq_getElem hj, Option.map_some, Option.some.injEq, List.getD_eq_getElem?_getD, Option.getD_some, vi]
      exact ⟨fun h => h.symm, fun h => h.symm⟩
  · refine ⟨by simp [SV.len], fun v hv => ?_, fun L j u hj => ?_⟩
    · obtain ⟨x, _, rfl⟩ := List.mem_map.1 hv; rfl
    · simp only [SV.len] at hj
      simp only [SV.cell, rep, List.getElem?_map, List.getElem?_eq_getElem hj, Option.map_some, Option.some.injEq, List.getD_eq_getElem?_getD, Option.getD_some, v8]
      exact ⟨fun h => h.symm, fun h => h.symm⟩
  · refine ⟨by simp [SV.len], fun v hv => ?_, fun L j u hj => ?_⟩
    · obtain ⟨x, _, rfl⟩ := List.mem_map.1 hv; rfl
    · simp only [SV.len] at hj
      simp only [SV.cell, rep, List.getElem?_map, List.getElem?_eq_getElem hj, Option.map_some, Option.some.injEq, List.getD_eq_getElem?_getD, Option.getD_some, v64]
      exact ⟨fun h => h.symm, fun h => h.symm⟩

theorem partS_ok {con con2 : SV} {off m : Nat} (h : partS con off m = some con2) : ∃ vs, vals con = some vs ∧ vals con2 = some ((vs.drop off).take m) := by
  cases con <;> simp only [partS, reduceCtorEq, Option.some.injEq] at h <;> subst h <;> exact ⟨_, rfl, by simp [vals]⟩
theorem catS_ok {con con2 con' : SV} {n : Nat} (h : catS con n con2 = some con') : ∃ vs us, vals con = some vs ∧ vals con2 = some us ∧ vals con' = some (vs.take n ++ us) := by
  unfold catS at h
  split at h
  · split at h
    · rename_i e; subst e
      simp only [Option.some.injEq] at h; subst h
      exact ⟨_, _, rfl, rfl, by simp [vals]⟩
    · cases h
  · simp only [Option.some.injEq] at h; subst h; exact ⟨_, _, rfl, rfl, by simp [vals]⟩
  · simp only [Option.some.injEq] at h; subst h; exact ⟨_, _, rfl, rfl, by simp [vals]⟩
  · cases h

theorem isZero_cells {d : TypeDesc} {z : Value} (h : isZero d z = true) : z.cells.size = 1 := by
  unfold isZero at h
  split at h <;> first | rfl | cases h

section
variable {P : Program} {w0 : World} {ρ : Operand → SV} {rows : Rows} {k : Nat}

theorem RowsOK.alloc' {w : World} {L : List (Option Loc)} (h : RowsOK w0 L rows w) (hk : k < rows.length) (hfree : lo L k = none) (cells : Array Value) (ty : TypeId) {con : SV} (hl : con.len ≤ cells.size)
    (hc : ∀ j, j < con.len → ∃ u, cells[j]? = some u ∧ rep L (con.cell j) u) :
    RowsOK w0 (L.set k (some ⟨w.heap.size, 0, cells.size⟩)) (rows.set k (some ⟨con, true⟩)) (w.alloc (.cells cells ty)) := by
  have cellnew : ∀ j, (w.alloc (.cells cells ty)).cell? ⟨w.heap.size, 0 + j, none⟩ = cells[j]? := by
    intro j; rw [Nat.zero_add]; exact World.cell?_alloc_new w cells ty j
  refine h.fill ((Below.refl _ w).alloc (Nat.le_refl _) _) hk hfree (Nat.le_refl _) ⟨hl, by simp, fun j hj => ?_, fun _ j hj => ?_, fun _ j _ => ?_⟩
  · obtain ⟨u, h1, h2⟩ := hc j hj
    exact ⟨u, by rw [cellnew]; exact h1, h2⟩
  · have hj' : j < cells.size := hj
    exact ⟨cells[j], by rw [cellnew]; simp [hj']⟩
  · simp [World.frozen?_alloc_new]

theorem row_vals {L : List (Option Loc)} {lc : Loc} {row : Row} {w : World} (ok : RowOK L lc row w) {vs : List Value} (hv : vals row.con = some vs) : ∀ j, j < vs.length → w.cell? ⟨lc.blk, lc.base + j, none⟩ = vs[j]? := by
  intro j hj
  obtain ⟨h1, _, h2⟩ := vals_ok hv
  obtain ⟨u, h3, h4⟩ := ok.cell j (by omega)
  rw [h3, (h2 L j u (by omega)).1 h4]

/-- Behind an append that grew. -/
theorem grown_row {w : World} {L : List (Option Loc)} {e : TypeId} {z : Value} (hz : z.cells.size = 1) {need old : Nat} {all : List Value} (hall : all.length = need) {con' : SV} (hv : vals con' = some all) (hw : RowsOK w0 L rows w) (hk : k < rows.length) (hlk : lo L k = none) :
    ∃ L', Ext k L L' ∧ rep L' (.sl k 0 need) (.slice (some ⟨w.heap.size, 0, none⟩) need (grownCap w need old e)) ∧
      RowsOK w0 L' (rows.set k (some ⟨con', true⟩)) (w.drew.alloc (.cells (all.toArray ++ Builtin.zeroCells z.cells (grownCap w need old e - need)) e)) := by
  obtain ⟨c1, _, c3⟩ := vals_ok hv
  have hge := grownCap_ge w need old e
  have hsz : (all.toArray ++ Builtin.zeroCells z.cells (grownCap w need old e - need)).size = grownCap w need old e := by
    simp [Builtin.zeroCells, hz, hall]; omega
  have hw' : RowsOK w0 L rows w.drew := hw.drew
  have := hw'.alloc' hk hlk (all.toArray ++ Builtin.zeroCells z.cells (grownCap w need old e - need)) e (con := con') (by rw [hsz, c1, hall]; exact hge) (fun j hj => by
    have hj' : j < all.length := by omega
    exact ⟨all[j], by rw [Array.getElem?_append_left (by simpa using hj')]; simp [hj'], (c3 L j _ hj).2 (by simp [hj'])⟩)
  refine ⟨_, Ext.set hlk _, ?_, this⟩
  simp only [rep]
  refine ⟨_, grownCap w need old e, lo_set_self (by rw [hw.size]; exact hk), hge, by simp only [hsz, Nat.zero_add]; exact Nat.le_refl _, rfl⟩

theorem catS_cell {con con2 con' : SV} {n j : Nat} (hc : catS con n con2 = some con') (hjn : j < n) (hj : j < con.len) : con'.cell j = con.cell j := by
  unfold catS at hc
  split at hc
  · split at hc
    · simp only [Option.some.injEq] at hc; subst hc
      simp only [SV.len] at hj
      have hmin := Nat.lt_min.2 ⟨hjn, hj⟩
      simp [SV.cell, List.getD_eq_getElem?_getD, List.getElem?_append, hj, hmin]
    · cases hc
  · simp only [Option.some.injEq] at hc; subst hc
    simp only [SV.len] at hj
    have hmin := Nat.lt_min.2 ⟨hjn, hj⟩
    simp [SV.cell, List.getD_eq_getElem?_getD, List.getElem?_append, hj, hmin]
  · simp only [Option.some.injEq] at hc; subst hc
    simp only [SV.len] at hj
    have hmin := Nat.lt_min.2 ⟨hjn, hj⟩
    simp [SV.cell, List.getD_eq_getElem?_getD, List.getElem?_append, hj, hmin]
  · cases hc

theorem evAppend_ok {x y : Operand} {t ty : TypeId} {tys : List TypeId} {K : SV → Rows → Option D} {r : D} (h : evAppend P ρ rows k x y t ty K = some r) :
    ∃ s rows', K s rows' = some r ∧ rows'.length = rows.length ∧ SGo P ρ rows k (.call { callee := .builtin .append, args := ⟨[x, y]⟩, argTypes := ⟨t :: ty :: tys⟩ }) s rows' := by
  have tyl : ∀ (a b : Value) (ty' : TypeId), Builtin.append_ ⟨t :: ty :: tys⟩ ty' #[a, b] = Builtin.append_ #[t, ty] ty' #[a, b] := fun _ _ _ => rfl
  have run : ∀ (o : Oper) (a : Act) (w : World), o.op = .call { callee := .builtin .append, args := ⟨[x, y]⟩, argTypes := ⟨t :: ty :: tys⟩ } → ∀ v w', (∀ ty', (Builtin.append_ #[t, ty] ty' #[a.eval x, a.eval y]).run P w = .ok v w') →
      (execOp a.eval o).run P w = .ok (.value v) w' := by
    intro o a w ho v w' hr
    simp only [execOp, ho, resolve]
    have e : (⟨[x, y]⟩ : Array Operand).map a.eval = #[a.eval x, a.eval y] := by simp
    simp only [e, Sem.run_bind, Sem.run_pure, Result.andThen_ok, invoke, builtin, tyl, hr]
  unfold evAppend at h
  split at h
  · rename_i e e' ht hty
    split at h
    · rename_i d size bytes z hd hsize hbytes hz
      split at h
      · rename_i hzz
        simp only [Bool.and_eq_true, beq_iff_eq, decide_eq_true_eq] at hzz
        obtain ⟨⟨hz0, hs1⟩, hb1⟩ := hzz
        have hz1 := isZero_cells hz0
        subst hs1
        unfold sizeT at hsize
        unfold bytesT at hbytes
        unfold zeroT at hz
        cases hi : P.info? e with
        | none => rw [hi] at hz; cases hz
        | some ie =>
          rw [hi] at hz hsize hbytes
          simp only [Option.bind_some, Option.map_some, Option.some.injEq] at hz hsize hbytes
          subst hbytes
          split at h
          · rename_i r2 off2 m hy
            split at h
            · rename_i row2 hrow2
              split at h
              · rename_i con2 hcon2
                split at h
                · rename_i hle2
                  obtain ⟨vs2, hv2, hc2⟩ := partS_ok hcon2
                  obtain ⟨len2, one2, _⟩ := vals_ok hv2
                  obtain ⟨len2', one2', rep2'⟩ := vals_ok hc2
                  have newsl : ((vs2.drop off2).take m).length = m := by simp; omega
                  -- the source
                  have src : ∀ (w0 : World) (L : List (Option Loc)) (a : Act) (w : World), (∀ q ∈ (Op.call { callee := .builtin .append, args := ⟨[x, y]⟩, argTypes := ⟨t :: ty :: tys⟩ }).operands, rep L (ρ q) (a.eval q)) → RowsOK w0 L rows w →
                      Src P 1 ty (a.eval y) m ((vs2.drop off2).take m) w := by
                    intro w0 L a w hρ hw
                    have hr := hρ y (by simp [Op.operands, Call.operands])
                    rw [hy] at hr
                    simp only [rep] at hr
                    obtain ⟨lc, cap, hlc, h1, h2, hv⟩ := hr
                    rw [hv]
                    have ok := hw.row r2 row2 lc hrow2 hlc
                    refine Src.ofSlice w hty _ m cap _ (by rw [newsl]; simp) (fun j u hj => ?_) one2'
                    have hjm : j < m := by
                      rcases Nat.lt_or_ge j m with h' | h'
                      · exact h'
                      · rw [List.getElem?_eq_none (by omega)] at hj; cases hj
                    have := row_vals ok hv2 (off2 + j) (by omega)
                    rw [lit_add, Nat.add_assoc, this, ← hj]
                    simp [hjm, List.getElem?_drop]
                  split at h
                  · rename_i hx
                    split at h
                    · rename_i hm0
                      refine ⟨_, _, h, rfl, fun w0 o ho L a w hρ hw hk hlk _ => ?_⟩
                      have hr := hρ x (by simp [Op.operands, Call.operands])
                      rw [hx] at hr
                      simp only [rep] at hr
                      have hs := src w0 L a w hρ hw
                      refine Goes.value (run o a w ho (.slice none 0 0) w fun ty' => ?_) ⟨L, Ext.refl k L, by rw [hx]; simp only [rep], hw⟩
                      rw [hr]
                      subst hm0
                      simp [Builtin.append_, run_underlying ht, run_underlying hty, sizeOf, typeInfo, hi, hs.len, hs.cells, hsize]
                    · rename_i hm0
                      split at h
                      · rename_i hb
                        refine ⟨_, _, h, by simp, fun w0 o ho L a w hρ hw hk hlk _ => ?_⟩
                        have hr := hρ x (by simp [Op.operands, Call.operands])
                        rw [hx] at hr
                        simp only [rep] at hr
                        have hs := src w0 L a w hρ hw
                        have hbm : m * 1 ≤ m * ie.bytes := Nat.mul_le_mul_left _ hb1
                        have hrun := fun ty' => run_append_grow_src (P := P) w t ty ty' e ie z ht hi hz none 0 0 [] (by rw [hsize]; exact run_firstCells_none w.drew 1 0 0 0) (a.eval y) m _ (by rw [hsize]; exact hs) (by omega) (by omega)
                          (growslice_fits (by omega) (by simpa using hb))
                        simp only [Nat.zero_add, List.nil_append] at hrun
                        obtain ⟨L', g1, g2, g3⟩ := grown_row (w0 := w0) (rows := rows) (k := k) (L := L) (w := w) (e := e) (z := z) (old := 0) hz1 newsl hc2 hw hk hlk
                        exact Goes.value (run o a w ho _ _ fun ty' => by rw [hr]; exact hrun ty') ⟨L', g1, g2, g3⟩
                      · cases h
                  · rename_i r1 n hx
                    split at h
                    · rename_i row hrow
                      split at h
                      · rename_i hown
                        simp only [Bool.and_eq_true, Bool.not_eq_true', beq_eq_false_iff_ne] at hown
                        obtain ⟨hown, hne⟩ := hown
                        split at h
                        · rename_i con' hcat
                          split at h
                          · rename_i hn
                            split at h
                            · rename_i hb
                              obtain ⟨vs, us, hv1, hv2', hv3⟩ := catS_ok hcat
                              rw [hc2] at hv2'
                              simp only [Option.some.injEq] at hv2'
                              subst hv2'
                              obtain ⟨len1, one1, rep1⟩ := vals_ok hv1
                              obtain ⟨len3, _, rep3⟩ := vals_ok hv3
                              have oldl : (vs.take n).length = n := by simp; omega
                              have alll : (vs.take n ++ (vs2.drop off2).take m).length = n + m := by rw [List.length_append, oldl, newsl]
                              refine ⟨_, _, h, by simp, fun w0 o ho L a w hρ hw hk hlk _ => ?_⟩
                              have hr := hρ x (by simp [Op.operands, Call.operands])
                              rw [hx] at hr
                              simp only [rep] at hr
                              obtain ⟨lc, cap, hlc, g1, g2, hv⟩ := hr
                              have hs := src w0 L a w hρ hw
                              have ok := hw.row r1 row lc hrow hlc
                              have hbm : (n + m) * 1 ≤ (n + m) * ie.bytes := Nat.mul_le_mul_left _ hb1
                              by_cases hroom : n + m ≤ cap
                              · have hrun := fun ty' => run_append_room_src (P := P) w t ty ty' e ie ht hi lc.blk (lc.base + 0) n cap (a.eval y) m _ (by rw [hsize]; exact hs) hroom
                                  (fun j hj => by
                                    rw [newsl] at hj
                                    obtain ⟨u, hu⟩ := ok.all hown (n + j) (by omega)
                                    rw [hsize, Nat.mul_one, Nat.add_zero, Nat.add_assoc, hu]; rfl)
                                  (fun j hj => by
                                    rw [newsl] at hj
                                    rw [hsize, Nat.mul_one, Nat.add_zero, Nat.add_assoc]; exact ok.free hown (n + j) (by omega))
                                rw [hsize, Nat.mul_one, Nat.add_zero] at hrun
                                have rowok : RowOK L lc ⟨con', true⟩ (w.setCells lc.blk (lc.base + n) ((vs2.drop off2).take m)) := ok.wrote hown (by rw [newsl]; omega) (by rw [len3, alll]; omega) fun j hj => by
                                  rw [len3, alll] at hj
                                  rcases Nat.lt_or_ge j n with hjn | hjn
                                  · right
                                    refine ⟨.inl hjn, by omega, ?_⟩
                                    exact catS_cell hcat hjn (by omega)
                                  · left
                                    have hjm : j - n < ((vs2.drop off2).take m).length := by rw [newsl]; omega
                                    refine ⟨hjn, by rw [newsl]; omega, ((vs2.drop off2).take m)[j - n], List.getElem?_eq_getElem hjm, (rep3 L j _ (by rw [len3, alll]; omega)).2 ?_⟩
                                    rw [List.getElem?_append_right (by rw [oldl]; exact hjn), oldl]
                                    exact List.getElem?_eq_getElem hjm
                                have hw' := hw.rewrite hrow hlc hown hk (.inl hlk) (setCells_below (w0 := w0) lc.blk (hw.new r1 row lc hrow hlc hown) _ (lc.base + n) w hw.below) (setCells_size _ _ _ _) (fun b hb => setCells_other _ _ _ _ b hb) rowok
                                refine Goes.value (run o a w ho _ _ fun ty' => by rw [hv]; exact hrun ty') ⟨_, Ext.set hlk lc, ?_, hw'⟩
                                simp only [rep]
                                exact ⟨lc, cap, lo_set_self (by rw [hw.size]; exact hk), hroom, g2, by simp⟩
                              · have hrun := fun ty' => run_append_grow_src (P := P) w t ty ty' e ie z ht hi hz (some ⟨lc.blk, lc.base + 0, none⟩) n cap (vs.take n)
                                  (by
                                    rw [hsize]
                                    refine run_firstCells_some w.drew 1 n _ n cap _ (by rw [oldl, Nat.mul_one]) fun j u hj => ?_
                                    have hjn : j < n := by
                                      rcases Nat.lt_or_ge j n with h' | h'
                                      · exact h'
                                      · rw [List.getElem?_eq_none (by omega)] at hj; cases hj
                                    rw [lit_add, World.cell?_drew, Nat.add_zero, row_vals ok hv1 j (by omega), ← hj]
                                    simp [hjn])
                                  (a.eval y) m _ (by rw [hsize]; exact hs) (by omega) (by omega) (growslice_fits (by omega) hb)
                                have hwk := hw.kill r1
                                obtain ⟨L', q1, q2, q3⟩ := grown_row (w0 := w0) (rows := rows.set r1 none) (k := k) (L := L) (w := w) (e := e) (z := z) (old := cap) hz1 alll hv3 hwk (by simpa using hk) hlk
                                exact Goes.value (run o a w ho _ _ fun ty' => by rw [hv]; exact hrun ty') ⟨L', q1, q2, q3⟩
                            · cases h
                          · cases h
                        · cases h
                      · cases h
                    · cases h
                  · cases h
                · cases h
              · cases h
            · cases h
          · rename_i p q hy
            split at h
            · rename_i hx
              refine ⟨_, _, h, rfl, fun w0 o ho L a w hρ hw hk hlk _ => ?_⟩
              have hr := hρ x (by simp [Op.operands, Call.operands])
              have hr2 := hρ y (by simp [Op.operands, Call.operands])
              rw [hx] at hr
              rw [hy] at hr2
              simp only [rep] at hr hr2
              refine Goes.value (run o a w ho (.slice none 0 0) w fun ty' => ?_) ⟨L, Ext.refl k L, by rw [hx]; simp only [rep], hw⟩
              rw [hr, hr2]
              cases p with
              | none => simp [Builtin.append_, run_underlying ht, run_underlying hty, sizeOf, typeInfo, hi, Builtin.lenOf, Builtin.firstCells]
              | some p => simp [Builtin.append_, run_underlying ht, run_underlying hty, sizeOf, typeInfo, hi, Builtin.lenOf, Builtin.firstCells, loadCells, loadCellsFrom]
            · cases h
          · cases h
      · cases h
    · cases h
  · cases h
end
end Go.Ev

/-
  Part of the proof; what its functions and lemmas say stands in the text.
-/
import Derived.Test.YtakonchpkchfhaaDoorEv9
set_option linter.unusedSimpArgs false
set_option linter.unusedVariables false
/-!
make, slices, closures, builtins without memory; all operations without calls.
-/
namespace Go.Ev
open Go.RowKit
variable {α : Type}

def sameOp : Operand → Operand → Bool
  | .tmp a, .tmp b => a == b
  | _, _ => false

def zeros (d : TypeDesc) (n : Nat) : Option SV :=
  match d with
  | .int .u8 => some (.a8 (List.replicate n 0#8))
  | .int .u64 => some (.a64 (List.replicate n 0#64))
  | .int .i64 => some (.ai .i64 (List.replicate n 0))
  | _ => none

def isZero : TypeDesc → Value → Bool
  | .int .u8, .int .u8 0 => true
  | .int .u64, .int .u64 0 => true
  | .int .i64, .int .i64 0 => true
  | _, _ => false

def evMake (P : Program) (ρ : Operand → SV) (t : TypeId) (x y : Operand) (k : Nat) (K : OpK α) : Option α :=
  match P.underlying t, idx (ρ x), idx (ρ y) with
  | some (.slice e), some n, some m => match P.underlying e, P.info? e with
    | some d, some ie => match ie.zero, zeros d n.toNat with
      | some z, some con => if isZero d z && ie.size == 1 && decide (ie.bytes ≤ 8) then
          if (sameOp x y || decide (n = m)) then if 0 ≤ n ∧ n ≤ 1048576 then K (.sl k 0 n.toNat) (some con) else none else none
        else none
      | _, _ => none
    | _, _ => none
  | _, _, _ => none

def optIdx (ρ : Operand → SV) : Option Operand → Option (Option Int)
  | none => some none
  | some x => match idx (ρ x) with | some n => some (some n) | none => none

def evSlice (P : Program) (ρ : Operand → SV) (rows : Rows) (t : TypeId) (x : Operand) (lo hi mx : Option Operand) (K : OpK α) : Option α :=
  match ρ x, P.underlying t with
  | .sl r off len, some (.slice e) => match sizeT P e, optIdx ρ lo, optIdx ρ hi, optIdx ρ mx with
    | some z, some l, some h, some m => if z = 1 then
        let l' := l.getD 0
        let h' := h.getD len
        let m' := m.getD len
        if 0 ≤ l' ∧ l' ≤ h' ∧ h' ≤ m' ∧ m' ≤ (len : Int) ∧ (l' = 0 ∨ l' < m') then if m = none ∨ hi ≠ none then K (.sl r (off + l'.toNat) (h'.toNat - l'.toNat)) none else none else none
      else none
    | _, _, _, _ => none
  | .ptr r off, some (.array n e) => match sizeT P e, lo, hi, mx, rows[r]? with
    | some z, none, none, none, some (some row) => if z = 1 ∧ n ≠ 0 then if off + n ≤ row.con.len then K (.sl r off n) none else none else none   -- the whole
    | _, _, _, _, _ => none
  | .c (.string s), some .string => match optIdx ρ lo, optIdx ρ hi, mx with
    | some l, some h, none =>
        let l' := l.getD 0
        let h' := h.getD s.size
        if 0 ≤ l' ∧ l' ≤ h' ∧ h' ≤ (s.size : Int) then K (.c (.string (s.extract l'.toNat h'.toNat))) none else none
    | _, _, _ => none
  | _, _ => none

def evLen (P : Program) (t : TypeId) (x : SV) (K : OpK α) : Option α :=
  match P.underlying t, x with
  | some (.array n _), _ => K (.i .i64 n) none
  | some (.slice _), .sl _ _ len => K (.i .i64 len) none
  | some (.slice _), .c (.slice _ n _) => K (.i .i64 n) none
  | some .string, .c (.string s) => K (.i .i64 s.size) none
  | _, _ => none

def evMin (lt : Bool) (x y : SV) (K : OpK α) : Option α :=
  match x, y with
  | .i k a, .i k' b => if k = k' then K (.i k (if lt then (if b < a then b else a) else (if a < b then b else a))) none else none
  | .u64 a, .u64 b => K (.u64 (if lt then (if b < a then b else a) else (if a < b then b else a))) none
  | _, _ => none

def evCall1 (P : Program) (ρ : Operand → SV) (c : Call) (K : OpK α) : Option α :=
  match c.callee, c.args.toList, c.argTypes.toList with
  | .builtin .len, [x], t :: _ => evLen P t (ρ x) K
  | .builtin .min, [x, y], _ => evMin true (ρ x) (ρ y) K
  | .builtin .max, [x, y], _ => evMin false (ρ x) (ρ y) K
  | _, _, _ => none

def mapSV (ρ : Operand → SV) : List Operand → List SV
  | [] => []
  | x :: l => ρ x :: mapSV ρ l

def evOp (P : Program) (G : List (Nat × SV)) (ρ : Operand → SV) (rows : Rows) (k : Nat) (op : Op) (K : OpK α) : Option α :=
  match op with
  | .move x => K (ρ x) none
  | .assign x => K (ρ x) none
  | .pick c x y => match ρ c with
    | .bool t => if t = true then K (ρ x) none else K (ρ y) none
    | _ => none
  | .load t x => evLoad P G rows t (ρ x) K
  | .field t x f => evField P t (ρ x) f K
  | .fieldAddr t x f => evFieldAddr P t (ρ x) f K
  | .indexAddr t x i => evIndexAddr P t (ρ x) (ρ i) K
  | .index t x i => evIndex P t (ρ x) (ρ i) K
  | .binOp op t x y _ => evBin P op t (ρ x) (ρ y) K
  | .unOp op _ x => unSV op (ρ x) (fun s => K s none)
  | .convert s d x => match P.underlying s, P.underlying d with
    | some _, some dd => convSV dd (ρ x) (fun s => K s none)
    | _, _ => none
  | .build t parts => evBuild P ρ t parts.toList K
  | .buildSlice t n parts => evBuildSlice P ρ t n parts.toList k K
  | .alloc t => evAlloc P t k K
  | .box _ x => evBox (ρ x) k K
  | .makeSlice t x y => evMake P ρ t x y k K
  | .slice t x lo hi mx => evSlice P ρ rows t x lo hi mx K
  | .extract x i => match ρ x with
    | .tup l => if i < l.length then K (l.getD i .any) none else none
    | _ => none
  | .makeFunc (.func f) first cap => if first.isEmpty then K (.clo f (mapSV ρ cap.toList)) none else none
  | .nilCheck x => match ρ x with
    | .ptr r off => K (.ptr r off) none
    | .gl g => K (.gl g) none
    | _ => none
  | .sliceToArrayPointer d x => match ρ x, P.underlying d with
    | .sl r off len, some (.array n _) => if n ≤ len then K (.ptr r off) none else none
    | _, _ => none
  | .call c => evCall1 P ρ c K
  | _ => none

section
variable {P : Program} {G : List (Nat × SV)} {ρ : Operand → SV} {rows : Rows} {k : Nat}

theorem run_make1 {w : World} {t e : TypeId} {ie : TypeInfo} {z : Value} (ht : P.underlying t = some (.slice e)) (hi : P.info? e = some ie) (hz : ie.zero = some z) (hs : ie.size = 1) (hb : ie.bytes ≤ 8) (kl kc : IntKind) (n : Int) (h0 : 0 ≤ n) (h1 : n ≤ 1048576) :
    (Instr.makeSlice t (.int kl n) (.int kc n)).run P w = .ok (.slice (some ⟨w.heap.size, 0, none⟩) n.toNat n.toNat) (w.alloc (.cells (madeCells z.cells n.toNat) e)) := by
  have hbytes : (ie.bytes : Int) * n ≤ 281474976710656 := by
    have h2 : (ie.bytes : Int) * n ≤ 8 * n := Int.mul_le_mul_of_nonneg_right (by omega) h0
    omega
  have := run_make w t e ie z ht hi hz kl kc n n h0 (Int.le_refl _) hbytes (by omega)
  rw [this, hs, Nat.mul_one]

theorem zeros_ok {d : TypeDesc} {z : Value} (hz : isZero d z = true) {n : Nat} {con : SV} (hc : zeros d n = some con) (L : List (Option Loc)) :
    con.len = (madeCells z.cells n).size ∧ ∀ j, j < con.len → ∃ u, (madeCells z.cells n)[j]? = some u ∧ rep L (con.cell j) u := by
  unfold isZero at hz
  split at hz
  · simp only [zeros, Option.some.injEq] at hc; subst hc
    refine ⟨by simp [SV.len, madeCells], fun j hj => ⟨.int .u8 0, ?_, ?_⟩⟩
    · have hj' : j < n := by simpa [SV.len] using hj
      simp [madeCells, hj', Value.cells, Nat.mod_one]
    · have hj' : j < n := by simpa [SV.len] using hj
      simp [SV.cell, rep, List.getD_eq_getElem?_getD, hj']
  · simp only [zeros, Option.some.injEq] at hc; subst hc
    refine ⟨by simp [SV.len, madeCells], fun j hj => ⟨.int .u64 0, ?_, ?_⟩⟩
    · have hj' : j < n := by simpa [SV.len] using hj
      simp [madeCells, hj', Value.cells, Nat.mod_one]
    · have hj' : j < n := by simpa [SV.len] using hj
      simp [SV.cell, rep, List.getD_eq_getElem?_getD, hj']
  · simp only [zeros, Option.some.injEq] at hc; subst hc
    refine ⟨by simp [SV.len, madeCells], fun j hj => ⟨.int .i64 0, ?_, ?_⟩⟩
    · have hj' : j < n := by simpa [SV.len] using hj
      simp [madeCells, hj', Value.cells, Nat.mod_one]
    · have hj' : j < n := by simpa [SV.len] using hj
      simp [SV.cell, rep, List.getD_eq_getElem?_getD, hj']
  · cases hz

theorem evMake_ok {t : TypeId} {x y : Operand} {K : OpK α} {r : α} (h : evMake P ρ t x y k K = some r) : ∃ s row, K s row = some r ∧ QGo P G ρ rows k (.makeSlice t x y) s row := by
  unfold evMake at h
  split at h
  · rename_i e n m ht hx hy
    split at h
    · rename_i d ie hd hi
      split at h
      · rename_i z con hz hcon
        split at h
        · rename_i hok
          simp only [Bool.and_eq_true, beq_iff_eq, decide_eq_true_eq] at hok
          split at h
          · rename_i hsame
            split at h
            · rename_i hn
              refine ⟨_, _, h, QGo.new fun w0 o ho L a w rows' hρ hw hsub => ?_⟩
              obtain ⟨kx, hvx⟩ := idx_ok hx L _ (hρ x (by simp [Op.operands]))
              obtain ⟨ky, hvy⟩ := idx_ok hy L _ (hρ y (by simp [Op.operands]))
              have hvy' : a.eval y = .int ky n := by
                rw [hvy]
                simp only [Bool.or_eq_true, decide_eq_true_eq] at hsame
                rcases hsame with h1 | h1
                · unfold sameOp at h1
                  split at h1
                  · rename_i p q
                    have e : p = q := by simpa using h1
                    subst e
                    rw [hx] at hy
                    cases hy; rfl
                  · cases h1
                · rw [h1]
              obtain ⟨z1, z2⟩ := zeros_ok hok.1.1 hcon L
              refine ⟨.slice (some ⟨w.heap.size, 0, none⟩) n.toNat n.toNat, madeCells z.cells n.toNat, e, ?_, z1, z2, fun L' hL' => ?_⟩
              · simp only [execOp, ho, hvx, hvy']
                rw [Sem.run_bind, run_make1 ht hi hz hok.1.2 hok.2 kx ky n hn.1 hn.2]
                rfl
              · simp only [rep]
                exact ⟨_, n.toNat, hL', Nat.le_refl _, by simp [madeCells], rfl⟩
            · cases h
          · cases h
        · cases h
      · cases h
    · cases h
  · cases h

theorem optIdx_ok {x : Option Operand} {n : Option Int} (h : optIdx ρ x = some n) (L : List (Option Loc)) (a : Act) (hr : ∀ y, x = some y → rep L (ρ y) (a.eval y)) :
    (x = none ∧ n = none) ∨ ∃ y q m, x = some y ∧ n = some m ∧ a.eval y = .int q m := by
  unfold optIdx at h
  split at h
  · simp only [Option.some.injEq] at h; exact .inl ⟨rfl, h.symm⟩
  · rename_i y
    split at h
    · rename_i m hm
      simp only [Option.some.injEq] at h
      obtain ⟨q, hq⟩ := idx_ok hm L _ (hr y rfl)
      exact .inr ⟨y, q, m, rfl, h.symm, hq⟩
    · cases h

theorem run_bound (P : Program) (w : World) (q : IntKind) (i : Int) (y : Nat) (code : BoundsCode) (h : 0 ≤ i ∧ i ≤ (y : Int)) : (Instr.sliceBound (.int q i) y code).run P w = .ok i.toNat w := by
  simp [Instr.sliceBound, asIntOf, h]

theorem evSlice_ok {t : TypeId} {x : Operand} {lo hi mx : Option Operand} {K : OpK α} {r : α} (h : evSlice P ρ rows t x lo hi mx K = some r) : ∃ s row, K s row = some r ∧ QGo P G ρ rows k (.slice t x lo hi mx) s row := by
  unfold evSlice at h
  split at h
  · rename_i n off len e hx ht
    split at h
    · rename_i z l hh m hz hl hhi hm
      split at h
      · rename_i hz1
        subst hz1
        simp only [] at h
        split at h
        · rename_i hb
          split at h
          · rename_i hmn
            refine ⟨_, _, h, QGo.val fun w0 o ho L a w rows' hρ hw hsub hG => ?_⟩
            have hr := hρ x (by simp [Op.operands])
            rw [hx] at hr
            simp only [rep] at hr
            obtain ⟨lc, cap, hlc, h1, h2, hv⟩ := hr
            have o1 := optIdx_ok hl L a (fun y hy => hρ y (by subst hy; simp [Op.operands]))
            have o2 := optIdx_ok hhi L a (fun y hy => hρ y (by subst hy; simp [Op.operands]))
            have o3 := optIdx_ok hm L a (fun y hy => hρ y (by subst hy; simp [Op.operands]))
            obtain ⟨b1, b2, b3, b4, b5⟩ := hb
            -- the bounds
            have key : ∃ M : Nat, (Instr.sliceBounds true len cap (lo.map a.eval) (hi.map a.eval) (mx.map a.eval)).run P w = .ok ((l.getD 0).toNat, (hh.getD len).toNat, M) w ∧ (hh.getD len).toNat ≤ M ∧ M ≤ cap ∧ ((l.getD 0) = 0 ∨ (l.getD 0).toNat < M) := by
              rcases o3 with ⟨rfl, rfl⟩ | ⟨my, mq, mm, rfl, rfl, hme⟩
              · refine ⟨cap, ?_, by simp only [Option.getD_none] at b3; omega, Nat.le_refl _, ?_⟩
                · rcases o2 with ⟨rfl, rfl⟩ | ⟨hy, hq, hn, rfl, rfl, hhe⟩ <;> rcases o1 with ⟨rfl, rfl⟩ | ⟨ly, lq, ln, rfl, rfl, hle⟩
                  · simp [Instr.sliceBounds]
                  · simp only [Option.getD_some, Option.getD_none] at b1 b2 b3 b4 ⊢
                    simp [Instr.sliceBounds, hle, run_bound P w lq ln len _ ⟨b1, b2⟩]
                  · simp only [Option.getD_some, Option.getD_none] at b1 b2 b3 b4 ⊢
                    simp [Instr.sliceBounds, hhe, run_bound P w hq hn cap _ ⟨b2, by omega⟩]
                  · simp only [Option.getD_some, Option.getD_none] at b1 b2 b3 b4 ⊢
                    simp [Instr.sliceBounds, hhe, hle, run_bound P w hq hn cap _ ⟨by omega, by omega⟩, run_bound P w lq ln hn.toNat _ ⟨b1, by omega⟩]
                · simp only [Option.getD_none] at b4 b5
                  omega
              · simp only [Option.getD_some] at b3 b4 b5
                have : hi ≠ none := by rcases hmn with e | e; · cases e
                                       · exact e
                rcases o2 with ⟨rfl, rfl⟩ | ⟨hy, hq, hn, rfl, rfl, hhe⟩
                · exact absurd rfl this
                · simp only [Option.getD_some] at b2 b3 ⊢
                  refine ⟨mm.toNat, ?_, by omega, by omega, by omega⟩
                  rcases o1 with ⟨rfl, rfl⟩ | ⟨ly, lq, ln, rfl, rfl, hle⟩
                  · simp only [Option.getD_none] at b1 b2 ⊢
                    simp [Instr.sliceBounds, hhe, hme, run_bound P w mq mm cap _ ⟨by omega, by omega⟩, run_bound P w hq hn mm.toNat _ ⟨by omega, by omega⟩]
                  · simp only [Option.getD_some] at b1 b2 ⊢
                    simp [Instr.sliceBounds, hhe, hme, hle, run_bound P w mq mm cap _ ⟨by omega, by omega⟩, run_bound P w hq hn mm.toNat _ ⟨by omega, by omega⟩, run_bound P w lq ln hn.toNat _ ⟨by omega, by omega⟩]
            obtain ⟨M, k1, k2, k3, k4⟩ := key
            refine ⟨.slice (some ⟨lc.blk, lc.base + (off + (l.getD 0).toNat), none⟩) ((hh.getD len).toNat - (l.getD 0).toNat) (M - (l.getD 0).toNat), w, ?_, ?_, Below.refl _ _⟩
            · simp only [execOp, ho, hv]
              unfold Instr.sliceAt
              simp only [Sem.run_bind, run_underlying ht, Result.andThen_ok]
              unfold Instr.slice
              simp only [Sem.run_bind, run_underlying ht, Result.andThen_ok, k1, run_sizeT hz, Sem.run_pure, Option.map_some, Nat.mul_one, lit_add]
              rcases k4 with k4 | k4
              · simp [k4]
              · rw [if_neg (by omega)]; simp [Nat.add_assoc]
            · simp only [rep]
              exact ⟨lc, _, hlc, by omega, by omega, rfl⟩
          · cases h
        · cases h
      · cases h
    · cases h
  · rename_i n off len e hx ht
    split at h
    · rename_i z row hz hrow
      split at h
      · rename_i hz1
        obtain ⟨hz1, hn0⟩ := hz1
        split at h
        · rename_i hle
          refine ⟨_, _, h, QGo.val fun w0 o ho L a w rows' hρ hw hsub hG => ?_⟩
          have hr := hρ x (by simp [Op.operands])
          rw [hx] at hr
          simp only [rep] at hr
          obtain ⟨lc, hlc, hv⟩ := hr
          have hsz := (hw.row n row lc (hsub n row hrow) hlc).len
          refine ⟨.slice (some ⟨lc.blk, lc.base + off, none⟩) len len, w, ?_, by simp only [rep]; exact ⟨lc, len, hlc, Nat.le_refl _, by omega, rfl⟩, Below.refl _ _⟩
          simp only [execOp, ho, hv]
          unfold Instr.sliceAt
          simp only [Sem.run_bind, run_underlying ht, Result.andThen_ok, Instr.sureAddr, Sem.run_pure, Option.map_none]
          simp [Instr.sliceBounds, run_sizeT hz, hn0, lit_add]
        · cases h
      · cases h
    · cases h
  · rename_i s hx ht
    split at h
    · rename_i l hh hl hhi
      simp only [] at h
      split at h
      · rename_i hb
        refine ⟨_, _, h, QGo.val fun w0 o ho L a w rows' hρ hw hsub hG => ?_⟩
        have hr := hρ x (by simp [Op.operands])
        rw [hx] at hr
        simp only [rep] at hr
        have o1 := optIdx_ok hl L a (fun y hy => hρ y (by subst hy; simp [Op.operands]))
        have o2 := optIdx_ok hhi L a (fun y hy => hρ y (by subst hy; simp [Op.operands]))
        obtain ⟨b1, b2, b3⟩ := hb
        have key : (Instr.sliceBounds false s.size s.size (lo.map a.eval) (hi.map a.eval) none).run P w = .ok ((l.getD 0).toNat, (hh.getD s.size).toNat, s.size) w := by
          rcases o2 with ⟨rfl, rfl⟩ | ⟨hy, hq, hn, rfl, rfl, hhe⟩ <;> rcases o1 with ⟨rfl, rfl⟩ | ⟨ly, lq, ln, rfl, rfl, hle⟩
          · simp [Instr.sliceBounds]
          · simp only [Option.getD_some, Option.getD_none] at b1 b2 b3 ⊢
            simp [Instr.sliceBounds, hle, run_bound P w lq ln s.size _ ⟨b1, b2⟩]
          · simp only [Option.getD_some, Option.getD_none] at b1 b2 b3 ⊢
            simp [Instr.sliceBounds, hhe, run_bound P w hq hn s.size _ ⟨b2, by omega⟩]
          · simp only [Option.getD_some] at b1 b2 b3 ⊢
            simp [Instr.sliceBounds, hhe, hle, run_bound P w hq hn s.size _ ⟨by omega, by omega⟩, run_bound P w lq ln hn.toNat _ ⟨b1, by omega⟩]
        refine ⟨_, w, ?_, by simp only [rep]; rfl, Below.refl _ _⟩
        simp only [execOp, ho, hr]
        unfold Instr.sliceAt
        simp only [Sem.run_bind, run_underlying ht, Result.andThen_ok]
        unfold Instr.slice
        simp only [Sem.run_bind, run_underlying ht, Result.andThen_ok, Option.map_none, key, Option.isSome_none, Bool.false_eq_true, if_false, Sem.run_pure]
      · cases h
    · cases h
  · cases h

theorem evCall1_ok {c : Call} {K : OpK α} {r : α} (h : evCall1 P ρ c K = some r) : ∃ s row, K s row = some r ∧ QGo P G ρ rows k (.call c) s row := by
  obtain ⟨callee, ⟨args⟩, ⟨tys⟩⟩ := c
  unfold evCall1 at h
  have mm : ∀ (b : Builtin) (lt : Bool) (x y : Operand) (tys : List TypeId), (b = .min ∧ lt = true ∨ b = .max ∧ lt = false) → evMin lt (ρ x) (ρ y) K = some r →
      ∃ s row, K s row = some r ∧ QGo P G ρ rows k (.call { callee := .builtin b, args := ⟨[x, y]⟩, argTypes := ⟨tys⟩ }) s row := by
    intro b lt x y tys hb h
    unfold evMin at h
    have fin : ∀ (s : SV), (∀ (L : List (Option Loc)) (vx vy : Value), rep L (ρ x) vx → rep L (ρ y) vy → ∃ v, rep L s v ∧ (∀ w, (if lt then Builtin.min2 vx vy else Builtin.max2 vx vy : Sem Value).run P w = .ok v w)) →
        QGo P G ρ rows k (.call { callee := .builtin b, args := ⟨[x, y]⟩, argTypes := ⟨tys⟩ }) s none := by
      intro s hs
      refine QGo.val fun w0 o ho L a w rows' hρ hw hsub hG => ?_
      obtain ⟨v, h1, h2⟩ := hs L (a.eval x) (a.eval y) (hρ x (by simp [Op.operands, Call.operands])) (hρ y (by simp [Op.operands, Call.operands]))
      refine ⟨v, w, ?_, h1, Below.refl _ _⟩
      rcases hb with ⟨rfl, rfl⟩ | ⟨rfl, rfl⟩
      · have := h2 w
        simp only [if_true] at this
        simp only [execOp, ho, resolve]
        simp [invoke, builtin, Builtin.min_, this]
      · have := h2 w
        simp only [Bool.false_eq_true, if_false] at this
        simp only [execOp, ho, resolve]
        simp [invoke, builtin, Builtin.max_, this]
    split at h
    · rename_i q n q' m hx hy
      split at h
      · rename_i e; subst e
        refine ⟨_, _, h, fin _ fun L vx vy rx ry => ?_⟩
        rw [hx] at rx; rw [hy] at ry
        simp only [rep] at rx ry; subst rx; subst ry
        cases lt
        · exact ⟨.int q (if m > n then m else n), by simp [rep], fun w => by simp [Builtin.max2]⟩
        · exact ⟨.int q (if m < n then m else n), by simp [rep], fun w => by simp [Builtin.min2]⟩
      · cases h
    · rename_i n m hx hy
      refine ⟨_, _, h, fin _ fun L vx vy rx ry => ?_⟩
      rw [hx] at rx; rw [hy] at ry
      simp only [rep] at rx ry; subst rx; subst ry
      cases lt
      · refine ⟨.int .u64 (if (m.toNat : Int) > n.toNat then (m.toNat : Int) else n.toNat), ?_, fun w => by simp [Builtin.max2]⟩
        simp only [rep, Bool.false_eq_true, if_false, BitVec.lt_def]
        congr 1
        by_cases hc : n.toNat < m.toNat
        · rw [if_pos hc, if_pos (by omega)]
        · rw [if_neg hc, if_neg (by omega)]
      · refine ⟨.int .u64 (if (m.toNat : Int) < n.toNat then (m.toNat : Int) else n.toNat), ?_, fun w => by simp [Builtin.min2]⟩
        simp only [rep, if_true, BitVec.lt_def]
        congr 1
        by_cases hc : m.toNat < n.toNat
        · rw [if_pos hc, if_pos (by omega)]
        · rw [if_neg hc, if_neg (by omega)]
    · cases h
  simp only [] at h
  split at h
  · rename_i _ _ _ x t rest
    unfold evLen at h
    have fin : ∀ (n : Nat), (∀ (L : List (Option Loc)) (w : World) (vx : Value), rep L (ρ x) vx → (Builtin.len_ ⟨t :: rest⟩ 0 #[vx]).run P w = .ok (.int .i64 n) w ∧ ∀ ty, Builtin.len_ ⟨t :: rest⟩ ty #[vx] = Builtin.len_ ⟨t :: rest⟩ 0 #[vx]) →
        QGo P G ρ rows k (.call { callee := .builtin .len, args := ⟨[x]⟩, argTypes := ⟨t :: rest⟩ }) (.i .i64 n) none := by
      intro n hn
      refine QGo.val fun w0 o ho L a w rows' hρ hw hsub hG => ?_
      obtain ⟨h1, h2⟩ := hn L w (a.eval x) (hρ x (by simp [Op.operands, Call.operands]))
      refine ⟨.int .i64 n, w, ?_, by simp only [rep], Below.refl _ _⟩
      simp only [execOp, ho, resolve]
      simp [invoke, builtin, h2, h1]
    split at h
    · rename_i n e ht
      refine ⟨_, _, h, fin n fun L w vx rx => ⟨?_, fun _ => rfl⟩⟩
      simp [Builtin.len_, run_underlying ht, goInt]
    · rename_i e p q n ht hx
      refine ⟨_, _, h, fin n fun L w vx rx => ⟨?_, fun _ => rfl⟩⟩
      rw [hx] at rx
      simp only [rep] at rx
      obtain ⟨_, cap, _, _, _, rfl⟩ := rx
      simp [Builtin.len_, run_underlying ht, goInt]
    · rename_i e n c ht hx
      refine ⟨_, _, h, fin n fun L w vx rx => ⟨?_, fun _ => rfl⟩⟩
      rw [hx] at rx
      simp only [rep] at rx
      subst rx
      simp [Builtin.len_, run_underlying ht, goInt]
    · rename_i s ht hx
      refine ⟨_, _, h, fin s.size fun L w vx rx => ⟨?_, fun _ => rfl⟩⟩
      rw [hx] at rx
      simp only [rep] at rx
      subst rx
      simp [Builtin.len_, run_underlying ht, goInt]
    · cases h
  · exact mm .min true _ _ _ (.inl ⟨rfl, rfl⟩) h
  · exact mm .max false _ _ _ (.inr ⟨rfl, rfl⟩) h
  · cases h

theorem mapSV_rep {L : List (Option Loc)} {a : Act} : ∀ (l : List Operand), (∀ x ∈ l, rep L (ρ x) (a.eval x)) → reps L (mapSV ρ l) (l.map a.eval)
  | [], _ => by simp [mapSV, reps]
  | x :: l, h => by
    simp only [mapSV, List.map_cons, reps]
    exact ⟨_, _, rfl, h x List.mem_cons_self, mapSV_rep l fun y hy => h y (List.mem_cons_of_mem _ hy)⟩

theorem evOp_ok {op : Op} {K : OpK α} {r : α} (h : evOp P G ρ rows k op K = some r) : ∃ s row, K s row = some r ∧ QGo P G ρ rows k op s row := by
  unfold evOp at h
  split at h
  · exact ⟨_, _, h, QGo.val fun w0 o ho L a w rows' hρ hw hsub hG => ⟨_, w, by simp only [execOp, ho, Sem.run_pure], hρ _ (by simp [Op.operands]), Below.refl _ _⟩⟩
  · exact ⟨_, _, h, QGo.val fun w0 o ho L a w rows' hρ hw hsub hG => ⟨_, w, by simp only [execOp, ho, Sem.run_pure], hρ _ (by simp [Op.operands]), Below.refl _ _⟩⟩
  · rename_i c x y
    split at h
    · rename_i t hc
      split at h
      · rename_i ht
        refine ⟨_, _, h, QGo.val fun w0 o ho L a w rows' hρ hw hsub hG => ?_⟩
        have hr := hρ c (by simp [Op.operands])
        rw [hc] at hr; simp only [rep] at hr
        exact ⟨_, w, by simp only [execOp, ho, hr, ht]; simp [asBool], hρ x (by simp [Op.operands]), Below.refl _ _⟩
      · rename_i ht
        refine ⟨_, _, h, QGo.val fun w0 o ho L a w rows' hρ hw hsub hG => ?_⟩
        have hr := hρ c (by simp [Op.operands])
        rw [hc] at hr; simp only [rep] at hr
        exact ⟨_, w, by simp only [execOp, ho, hr]; simp [asBool, ht], hρ y (by simp [Op.operands]), Below.refl _ _⟩
    · cases h
  · exact evLoad_ok h
  · exact evField_ok h
  · exact evFieldAddr_ok h
  · exact evIndexAddr_ok h
  · exact evIndex_ok h
  · exact evBin_ok h
  · rename_i op t x
    obtain ⟨s, hs, hg⟩ := unSV_ok h
    refine ⟨_, _, hs, QGo.val fun w0 o ho L a w rows' hρ hw hsub hG => ?_⟩
    obtain ⟨v, h1, h2⟩ := hg P L w _ (hρ x (by simp [Op.operands]))
    exact ⟨v, w, by simp only [execOp, ho]; rw [Sem.run_bind, h1]; rfl, h2, Below.refl _ _⟩
  · rename_i s d x
    split at h
    · rename_i ds dd hs hd
      obtain ⟨t, ht, hg⟩ := convSV_ok h
      refine ⟨_, _, ht, QGo.val fun w0 o ho L a w rows' hρ hw hsub hG => ?_⟩
      obtain ⟨v, w', h1, h2, h3⟩ := hg P L w _ s d ds hs hd (hρ x (by simp [Op.operands]))
      exact ⟨v, w', by simp only [execOp, ho]; rw [Sem.run_bind, h1]; rfl, h2, h3⟩
    · cases h
  · exact evBuild_ok h
  · exact evBuildSlice_ok h
  · exact evAlloc_ok h
  · exact evBox_ok h
  · exact evMake_ok h
  · exact evSlice_ok h
  · rename_i x i
    split at h
    · rename_i l hx
      split at h
      · rename_i hi
        refine ⟨_, _, h, QGo.val fun w0 o ho L a w rows' hρ hw hsub hG => ?_⟩
        have hr := hρ x (by simp [Op.operands])
        rw [hx] at hr; simp only [rep] at hr
        obtain ⟨cs, hv, hcs⟩ := hr
        obtain ⟨u, h1, h2⟩ := reps_get hcs i hi
        refine ⟨u, w, ?_, h2, Below.refl _ _⟩
        simp only [execOp, ho, hv, Instr.extract]
        have : (⟨cs⟩ : Array Value)[i]? = some u := by simpa using h1
        simp [this]
      · cases h
    · cases h
  · rename_i f first cap
    split at h
    · rename_i hf
      refine ⟨_, _, h, QGo.val fun w0 o ho L a w rows' hρ hw hsub hG => ?_⟩
      have hf' : first = #[] := by simpa using hf
      subst hf'
      refine ⟨.func (.func f) #[] (cap.map a.eval), w, by simp only [execOp, ho, Instr.makeFunc]; simp, ?_, Below.refl _ _⟩
      simp only [rep]
      refine ⟨cap.toList.map a.eval, ?_, mapSV_rep cap.toList fun x hx => hρ x (by simp only [Op.operands, Array.empty_append]; exact Array.mem_toList_iff.1 hx)⟩
      rw [← Array.toList_map]
    · cases h
  · rename_i x
    split at h
    · rename_i n off hx
      refine ⟨_, _, h, QGo.val fun w0 o ho L a w rows' hρ hw hsub hG => ?_⟩
      have hr := hρ x (by simp [Op.operands])
      rw [hx] at hr
      have hr' := hr
      simp only [rep] at hr'
      obtain ⟨lc, hlc, hv⟩ := hr'
      exact ⟨.pointer (some ⟨lc.blk, lc.base + off, none⟩), w, by simp only [execOp, ho, hv, Sem.run_pure], by rw [hv] at hr; exact hr, Below.refl _ _⟩
    · rename_i g hx
      refine ⟨_, _, h, QGo.val fun w0 o ho L a w rows' hρ hw hsub hG => ?_⟩
      have hr := hρ x (by simp [Op.operands])
      rw [hx] at hr
      have hr' := hr
      simp only [rep] at hr'
      exact ⟨.pointer (some ⟨g, 0, none⟩), w, by simp only [execOp, ho, hr', Sem.run_pure], by rw [hr'] at hr; exact hr, Below.refl _ _⟩
    · cases h
  · rename_i d x
    split at h
    · rename_i n off len m e hx hd
      split at h
      · rename_i hle
        refine ⟨_, _, h, QGo.val fun w0 o ho L a w rows' hρ hw hsub hG => ?_⟩
        have hr := hρ x (by simp [Op.operands])
        rw [hx] at hr
        simp only [rep] at hr
        obtain ⟨lc, cap, hlc, h1, h2, hv⟩ := hr
        refine ⟨.pointer (some ⟨lc.blk, lc.base + off, none⟩), w, ?_, by simp only [rep]; exact ⟨lc, hlc, rfl⟩, Below.refl _ _⟩
        simp only [execOp, ho, hv, Instr.arrayAt]
        have : ¬ len < m := by omega
        simp [run_underlying hd, this]
      · cases h
    · cases h
  · exact evCall1_ok h
  · cases h
end
end Go.Ev

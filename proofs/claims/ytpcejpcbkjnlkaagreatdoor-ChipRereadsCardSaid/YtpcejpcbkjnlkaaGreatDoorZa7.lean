/- A walk by computing: code and calls. Conditions: none. A walk by computing: code and calls are walked as they are computed. Conditions: none. A walk by computing: calls, one within another. Conditions: none. -/
import Derived.Test.YtpcejpcbkjnlkaaGreatDoorZa6
import Derived.Scope
set_option linter.unusedVariables false
namespace Go.Proofs.YtpcejpcbkjnlkaaGreatDoor.AE
noncomputable section
open Go.RowKit

/-! ### results -/
/-- a load by a pointer: the value and the name that is read -/
def peek (P : Program) (look : Heap) (t : TypeId) (p : Value) : Option (Value × Nat) :=
  match p with
  | .pointer (some ⟨n, off, none⟩) =>
    match look n with
    | some (.row len cells d _ _) =>
      match runP P (isAgg t) with
      | some true =>
        match runP P (sizeOf t) with
        | some k => match readN len cells d off k with
          | some l => some (.agg ⟨l⟩, n)
          | none => none
        | none => none
      | some false => match cellAt len cells d off with
        | some v => some (v, n)
        | none => none
      | none => none
    | _ => none
  | _ => none
theorem peek_ok {P : Program} {look : Heap} {t : TypeId} {p p' v : Value} {n : Nat} {σ : Sig} {w : World} {E : Heap} (h : peek P look t p = some (v, n)) (hs : Sat σ E w) (hr : E n = look n) (hp : conc σ p = some p') :
    ∃ a v', p' = .pointer (some a) ∧ (loadVar t a).run P w = .ok v' w ∧ conc σ v = some v' := by
  unfold peek at h
  split at h
  case h_2 => cases h
  rename_i m off
  split at h
  case h_2 => cases h
  rename_i len cells d e sp hl
  obtain ⟨q, hq, hv⟩ := conc_ptr hp
  split at h
  · rename_i hag
    split at h
    case h_2 => cases h
    rename_i k hk'
    split at h
    case h_2 => cases h
    rename_i l hl'
    cases h
    have hE : E n = some (.row len cells d e sp) := by rw [hr, hl]
    obtain ⟨C, fr, h1, -, -, -, h5⟩ := (hs.obj n _ hE).row hq
    obtain ⟨l', c1, c2, c3⟩ := conc_list h5 k off l hl'
    refine ⟨_, .agg l'.toArray, hv, ?_, by simp only [conc, concA, c1]⟩
    have hld : (loadCells ⟨q.1, off, none⟩ k).run P w = .ok l'.toArray w := by
      have := run_loadCells_list (P := P) (w := w) ⟨q.1, off, none⟩ l' (fun j v hj => by rw [add_at, cell_row h1]; exact c3 j v hj)
      rwa [c2] at this
    simp [loadVar, runP_run w _ _ hag, runP_run w _ _ hk', hld]
  · rename_i hag
    split at h
    case h_2 => cases h
    rename_i u hcv
    cases h
    have hE : E n = some (.row len cells d e sp) := by rw [hr, hl]
    obtain ⟨C, fr, h1, -, -, -, h5⟩ := (hs.obj n _ hE).row hq
    obtain ⟨v', q1, q2⟩ := h5 off v hcv
    refine ⟨_, v', hv, ?_, q1⟩
    have hc := cell_row h1 off
    rw [q2] at hc
    simp [loadVar, runP_run w _ _ hag, hc]
  · cases h
def resA (P : Program) (ts : T Value) (look : Heap) : List ResultVar → Option (List Value × List Nat)
  | [] => some ([], [])
  | .tmp t :: l => match ts.get t, resA P ts look l with
    | some v, some (vs, rd) => some (v :: vs, rd)
    | _, _ => none
  | .cell a t :: l => match ts.get a with
    | some p => match peek P look t p, resA P ts look l with
      | some (v, n), some (vs, rd) => some (v :: vs, n :: rd)
      | _, _ => none
    | none => none
theorem resA_ok {P : Program} {ts : T Value} {look : Heap} {σ : Sig} {G n : Nat} {w : World} {E : Heap} {a : Act} (hs : Sat σ E w) (hf : FrameIs σ G ts.get n a) : ∀ (l : List ResultVar) (vs : List Value) (rd : List Nat), resA P ts look l = some (vs, rd) → (∀ m ∈ rd, E m = look m) →
    ∃ vs', concL σ vs = some vs' ∧ (l.mapM fun | .tmp t => pure (a.tmps.getD t undef) | .cell b t => do loadVar t (← asAddr (a.tmps.getD b undef)) : Sem (List Value)).run P w = .ok vs' w
  | [], vs, rd, h, _ => by simp only [resA] at h; cases h; exact ⟨[], by simp [concL], by simp⟩
  | .tmp t :: l, vs, rd, h, hr => by
    simp only [resA] at h
    split at h
    case h_2 => cases h
    rename_i v vs0 rd0 hv hrest
    cases h
    obtain ⟨vs', h1, h2⟩ := resA_ok hs hf l vs0 _ hrest hr
    obtain ⟨v', g1, g2⟩ := hf.tmp t v hv
    refine ⟨v' :: vs', by simp only [concL, g1, h1], ?_⟩
    rw [List.mapM_cons]
    have hget : a.tmps.getD t undef = v' := by simp [g2]
    simp only [Sem.run_bind, Sem.run_pure, Result.andThen_ok, h2, hget]
  | .cell b t :: l, vs, rd, h, hr => by
    simp only [resA] at h
    split at h
    case h_2 => cases h
    rename_i p hp
    split at h
    case h_2 => cases h
    rename_i v m vs0 rd0 hpk hrest
    cases h
    obtain ⟨vs', h1, h2⟩ := resA_ok hs hf l vs0 _ hrest (fun k hk => hr k (by simp [hk]))
    obtain ⟨p', g1, g2⟩ := hf.tmp b p hp
    obtain ⟨ad, v', e1, e2, e3⟩ := peek_ok hpk hs (hr m (by simp)) g1
    refine ⟨v' :: vs', by simp only [concL, e3, h1], ?_⟩
    rw [List.mapM_cons]
    have hget : a.tmps.getD b undef = .pointer (some ad) := by simp [g2, e1]
    have hA : (asAddr (a.tmps.getD b undef)).run P w = .ok ad w := by rw [hget]; rfl
    simp only [Sem.run_bind, Sem.run_pure, Result.andThen_ok, h2, hA, e2]
def tupleOf : List Value → Value
  | [v] => v
  | vs => .tuple ⟨vs⟩
theorem conc_tupleOf {σ : Sig} {vs vs' : List Value} (h : concL σ vs = some vs') : conc σ (tupleOf vs) = some (if hh : vs'.toArray.size = 1 then vs'.toArray[0] else .tuple vs'.toArray) := by
  match vs, h with
  | [], h => simp only [concL] at h; cases h; simp [tupleOf, conc, concA, concL]
  | [v], h =>
    simp only [concL] at h
    split at h
    · rename_i v' l' hv hl; cases hl; cases h; simp [tupleOf, hv]
    · cases h
  | v :: u :: l, h =>
    have hlen := (concL_get _ _ h).1
    simp only [tupleOf, conc, concA, h]
    rw [dif_neg (by simp [hlen])]

/-! ### code -/
inductive AEx where
  | normal
  | exit (id : Nat)
  | ret
def AEx.up : AEx → Exit
  | .normal => .normal
  | .exit id => .exit id
  | .ret => .ret
def loopGo (k : St → Option (AEx × St)) : Option (AEx × St) → Option (AEx × St)
  | some (.normal, st) => k st
  | r => r
noncomputable def loopN (f : St → Option (AEx × St)) (k : Nat) : St → Option (AEx × St) :=
  Nat.rec (motive := fun _ => St → Option (AEx × St)) (fun _ => none) (fun _ ih st => loopGo ih (f st)) k
theorem loopN_zero {f : St → Option (AEx × St)} {st : St} : loopN f 0 st = none := rfl
theorem loopN_succ {f : St → Option (AEx × St)} {k : Nat} {st : St} : loopN f (k + 1) st = match f st with
    | some (.normal, st') => loopN f k st'
    | r => r := by
  show loopGo (loopN f k) (f st) = _
  unfold loopGo
  split <;> rfl
def normalOf : Option St → Option (AEx × St)
  | some st => some (.normal, st)
  | none => none
def blockOf (id : Nat) : Option (AEx × St) → Option (AEx × St)
  | some (.exit k, st) => bif Nat.beq k id then some (.normal, st) else some (.exit k, st)
  | r => r
def condOf (v : Option Value) (x y : Option (AEx × St)) : Option (AEx × St) :=
  match v with
  | some (.bool true) => x
  | some (.bool false) => y
  | _ => none
noncomputable def evalCode (P : Program) (call : CallFn) (idle : FuncId → Bool) (G n c0 lf : Nat) (cd : Code) : St → Option (AEx × St) :=
  Code.rec (motive := fun _ => St → Option (AEx × St))
    (fun st => some (.normal, st))
    (fun _ ops draw st => normalOf (bif draw then runDraw P call G n c0 ops st else runOps P call idle G n c0 ops ops.toList st))
    (fun _ _ x y st => loopGo y (x st))
    (fun q _ _ x y st => condOf (evOf G st.ts q) (x st) (y st))
    (fun id _ x st => blockOf id (x st))
    (fun _ x st => loopN x lf st)
    (fun _ _ _ _ _ _ _ => none)
    (fun id st => some (.exit id, st))
    (fun _ x st => x st)
    (fun _ st => some (.normal, st))
    (fun _ _ => none)
    (fun st => some (.ret, st))
    (fun _ _ => none) cd
section
variable {P : Program} {call : CallFn} {idle : FuncId → Bool} {G n c0 lf : Nat} {st : St}
theorem evalCode_skip : evalCode P call idle G n c0 lf .skip st = some (.normal, st) := rfl
theorem evalCode_label {l : Nat} : evalCode P call idle G n c0 lf (.label l) st = some (.normal, st) := rfl
theorem evalCode_exit {l : Nat} : evalCode P call idle G n c0 lf (.exit l) st = some (.exit l, st) := rfl
theorem evalCode_ret : evalCode P call idle G n c0 lf .ret st = some (.ret, st) := rfl
theorem evalCode_region {id : Nat} {ops : Array Oper} {draw : Bool} : evalCode P call idle G n c0 lf (.region id ops draw) st = match (bif draw then runDraw P call G n c0 ops st else runOps P call idle G n c0 ops ops.toList st) with
    | some st' => some (.normal, st')
    | none => none := by
  show normalOf _ = _
  unfold normalOf
  rfl
theorem evalCode_seq {x y : Code} : evalCode P call idle G n c0 lf (.seq x y) st = match evalCode P call idle G n c0 lf x st with
    | some (.normal, st') => evalCode P call idle G n c0 lf y st'
    | r => r := by
  show loopGo (evalCode P call idle G n c0 lf y) (evalCode P call idle G n c0 lf x st) = _
  unfold loopGo
  split <;> rfl
theorem evalCode_cond {q : Operand} {x y : Code} : evalCode P call idle G n c0 lf (.cond q x y) st = match evOf G st.ts q with
    | some (.bool true) => evalCode P call idle G n c0 lf x st
    | some (.bool false) => evalCode P call idle G n c0 lf y st
    | _ => none := by
  show condOf (evOf G st.ts q) (evalCode P call idle G n c0 lf x st) (evalCode P call idle G n c0 lf y st) = _
  unfold condOf
  split <;> rfl
theorem evalCode_block {id : Nat} {b : Code} : evalCode P call idle G n c0 lf (.block id b) st = match evalCode P call idle G n c0 lf b st with
    | some (.exit k, st') => bif Nat.beq k id then some (.normal, st') else some (.exit k, st')
    | r => r := by
  show blockOf id (evalCode P call idle G n c0 lf b st) = _
  unfold blockOf
  split <;> rfl
theorem evalCode_loop {b : Code} : evalCode P call idle G n c0 lf (.loop b) st = loopN (evalCode P call idle G n c0 lf b) lf st := rfl
theorem evalCode_scope {b : Code} : evalCode P call idle G n c0 lf (.scope b) st = evalCode P call idle G n c0 lf b st := rfl
theorem evalCode_rangeFunc {f : Operand} {ps : Array Tmp} {x y : Code} : evalCode P call idle G n c0 lf (.rangeFunc f ps x y) st = none := rfl
theorem evalCode_goto {l : Nat} : evalCode P call idle G n c0 lf (.goto l) st = none := rfl
theorem evalCode_refuse {s : String} : evalCode P call idle G n c0 lf (.refuse s) st = none := rfl
end
section
variable {P : Program} {call : CallFn} {idle : FuncId → Bool} {G n lf : Nat} {B : Start}
theorem runDraw_grow (hc : CallsOk P G call) {c0 : Nat} {ops : Array Oper} {st st' : St} (h : runDraw P call G n c0 ops st = some st') : Grow st st' := by
  unfold runDraw at h
  cases hst : staticOk ops with
  | false => rw [hst] at h; cases h
  | true =>
    rw [hst, cond_true] at h
    split at h
    case h_2 => cases h
    rename_i rs hrs
    obtain ⟨hch, _⟩ := recs_chain _ _ _ _ _ hrs
    have hle := (hch.le hc).1
    cases hpr : pairs (fun x y => Nat.testBit ((masks [] ops.toList).getD y.1 0) x.1 || indepB x.2 y.2) ((number 0 rs).filter fun x => !quietR x.2) with
    | false => rw [hpr] at h; cases h
    | true =>
      rw [hpr, cond_true] at h
      have hlast : lastSt n rs st.ts st.H st.c = ((lastSt n rs st.ts st.H st.c).1, (lastSt n rs st.ts st.H st.c).2.1, (lastSt n rs st.ts st.H st.c).2.2) := rfl
      rw [hlast] at h
      simp only at h
      cases h
      exact ⟨hle, fun m hm => List.mem_append_right _ hm⟩
theorem loopN_grow {f : St → Option (AEx × St)} (hf : ∀ st x st', f st = some (x, st') → Grow st st') : ∀ (k : Nat) (st : St) (x : AEx) (st' : St), loopN f k st = some (x, st') → Grow st st'
  | 0, _, _, _, h => by simp [loopN_zero] at h
  | k + 1, st, x, st', h => by
    simp only [loopN_succ] at h
    split at h
    · rename_i st1 h1
      exact (hf _ _ _ h1).trans (loopN_grow hf k _ _ _ h)
    · exact hf _ _ _ h
theorem evalCode_grow (hc : CallsOk P G call) {c0 : Nat} : ∀ (cd : Code) (st : St) (x : AEx) (st' : St), evalCode P call idle G n c0 lf cd st = some (x, st') → Grow st st'
  | .skip, st, x, st', h | .label _, st, x, st', h | .exit _, st, x, st', h | .ret, st, x, st', h => by simp only [evalCode_skip, evalCode_label, evalCode_exit, evalCode_ret] at h; cases h; exact Grow.refl _
  | .region _ ops draw, st, x, st', h => by
    simp only [evalCode_region] at h
    split at h
    case h_2 => cases h
    rename_i st1 h1
    cases h
    cases draw with
    | true => exact runDraw_grow hc h1
    | false => exact runOps_grow hc _ _ _ h1
  | .seq a b, st, x, st', h => by
    simp only [evalCode_seq] at h
    split at h
    · rename_i st1 h1
      exact (evalCode_grow hc a _ _ _ h1).trans (evalCode_grow hc b _ _ _ h)
    · exact evalCode_grow hc a _ _ _ h
  | .cond q a b, st, x, st', h => by
    simp only [evalCode_cond] at h
    split at h
    · exact evalCode_grow hc a _ _ _ h
    · exact evalCode_grow hc b _ _ _ h
    · cases h
  | .block id b, st, x, st', h => by
    simp only [evalCode_block] at h
    split at h
    · rename_i k st1 h1
      have := evalCode_grow hc b _ _ _ h1
      cases hb : Nat.beq k id with
      | true => rw [hb] at h; cases h; exact this
      | false => rw [hb] at h; cases h; exact this
    · exact evalCode_grow hc b _ _ _ h
  | .loop b, st, x, st', h => by
    simp only [evalCode_loop] at h
    exact loopN_grow (fun s y s' hs => evalCode_grow hc b s y s' hs) lf st x st' h
  | .scope b, st, x, st', h => by
    simp only [evalCode_scope] at h
    exact evalCode_grow hc b _ _ _ h
  | .rangeFunc .., st, x, st', h | .goto _, st, x, st', h | .refuse _, st, x, st', h => by simp [evalCode_rangeFunc, evalCode_goto, evalCode_refuse] at h
end
end
end Go.Proofs.YtpcejpcbkjnlkaaGreatDoor.AE

namespace Go.Proofs.YtpcejpcbkjnlkaaGreatDoor.AE
noncomputable section
open Go.RowKit
section
variable {P : Program} {call : CallFn} {idle : FuncId → Bool} {G n lf : Nat} {B : Start}
/-! ### what holds of a state by itself -/
structure SInv (c0 : Nat) (H0 : T AObj) (st : St) : Prop where
  le : c0 ≤ st.c
  rl : ∀ m ∈ st.rl, m < c0
  wl : ∀ m ∈ st.wl, m < c0
  keep : ∀ m, m ∉ st.wl → ¬ (c0 ≤ m ∧ m < st.c) → st.H.get m = H0.get m
theorem SInv.step {c0 : Nat} {H0 : T AObj} {st : St} (h : SInv c0 H0 st) {v : Value} {H' : T AObj} {c' : Nat} {R W : List Nat} (ht : Tidy st.H st.c ⟨v, H', c', R, W⟩) (ts' : T Value) {rl : List Nat} (hrl : ∀ m ∈ rl, m < c0) : SInv c0 H0 ⟨ts', H', c', rl, low c0 W ++ st.wl⟩ := by
  have h1 := h.le
  have h2 : st.c ≤ c' := ht.le
  refine ⟨Nat.le_trans h1 h2, hrl, fun m hm => ?_, fun m hm hn => ?_⟩
  · rcases List.mem_append.1 hm with hm | hm
    · exact (mem_low.1 hm).2
    · exact h.wl m hm
  · simp only [List.mem_append, not_or, mem_low] at hm
    simp only at hn
    have hW : m ∉ W := fun e => by
      have := ht.low m e
      rcases Nat.lt_or_ge m c0 with h3 | h3
      · exact hm.1 ⟨e, h3⟩
      · exact hn ⟨h3, by omega⟩
    have hk : H'.get m = st.H.get m := ht.keep m hW (fun e => hn ⟨by omega, e.2⟩)
    exact hk.trans (h.keep m hm.2 (fun e => hn ⟨e.1, by omega⟩))
theorem SInv.skip {c0 : Nat} {H0 : T AObj} {st : St} (h : SInv c0 H0 st) (ts' : T Value) : SInv c0 H0 ⟨ts', st.H, st.c, st.rl, st.wl⟩ := ⟨h.le, h.rl, h.wl, h.keep⟩
theorem runOps_sinv (hc : CallsOk P G call) {c0 : Nat} {H0 : T AObj} {ops : Array Oper} : ∀ (l : List Oper) (st st' : St), runOps P call idle G n c0 ops l st = some st' → SInv c0 H0 st → SInv c0 H0 st'
  | [], st, st', h, hs => by simp only [runOps_nil] at h; cases h; exact hs
  | o :: l, st, st', h, hs => by
    simp only [runOps_cons] at h
    split at h
    · split at h
      case h_2 => cases h
      rename_i st1 h1
      rcases stepOp_split h1 with ⟨cl, _, _, rfl⟩ | ⟨out, hout, rfl⟩
      · exact runOps_sinv hc l _ _ h (hs.skip _)
      · refine runOps_sinv hc l _ _ h (hs.step (evalOp_tidy hc hout) _ fun m hm => ?_)
        rcases List.mem_append.1 hm with hm | hm
        · exact (mem_low.1 hm).2
        · exact hs.rl m hm
    · exact runOps_sinv hc l _ _ h (hs.skip _)
    · cases h
theorem runDraw_sinv (hc : CallsOk P G call) {c0 : Nat} {H0 : T AObj} {ops : Array Oper} {st st' : St} (h : runDraw P call G n c0 ops st = some st') (hs : SInv c0 H0 st) : SInv c0 H0 st' := by
  unfold runDraw at h
  cases hst : staticOk ops with
  | false => rw [hst] at h; cases h
  | true =>
    rw [hst, cond_true] at h
    split at h
    case h_2 => cases h
    rename_i rs hrs
    obtain ⟨hch, _⟩ := recs_chain _ _ _ _ _ hrs
    obtain ⟨hcle, hchain⟩ := hch.le hc
    cases hpr : pairs (fun x y => Nat.testBit ((masks [] ops.toList).getD y.1 0) x.1 || indepB x.2 y.2) ((number 0 rs).filter fun x => !quietR x.2) with
    | false => rw [hpr] at h; cases h
    | true =>
      rw [hpr, cond_true] at h
      have hlast : lastSt n rs st.ts st.H st.c = ((lastSt n rs st.ts st.H st.c).1, (lastSt n rs st.ts st.H st.c).2.1, (lastSt n rs st.ts st.H st.c).2.2) := rfl
      rw [hlast] at h
      simp only at h
      cases h
      obtain ⟨EN, v1, v2, v3⟩ := chain_valid (Er := st.H.get) (Hr := st.H.get) hc hch 0 ⟨st.ts.get, st.H.get⟩ [] (Nat.le_refl _) rfl (fun m hm => by simp at hm; omega) (fun m _ _ => ⟨rfl, rfl⟩) (fun _ _ _ => rfl)
      have htidy : Tidy st.H st.c ⟨undef, (lastSt n rs st.ts st.H st.c).2.1, (lastSt n rs st.ts st.H st.c).2.2, [], low st.c (wcat rs)⟩ := by
        refine ⟨hcle, fun m hm => (mem_low.1 hm).2, by simp, fun m h1 h2 => ?_⟩
        refine (v3 m (by simp) (fun e => ?_) h2).2
        rcases Nat.lt_or_ge m st.c with h3 | h3
        · exact h1 (mem_low.2 ⟨e, h3⟩)
        · obtain ⟨x, hx, hm⟩ := mem_wcat.1 e
          obtain ⟨r1, r2, r3⟩ := hchain x hx
          have h4 := (r1.tidy hc).low m hm
          have h5 := (r1.tidy hc).le
          exact h2 ⟨h3, by simp only; omega⟩
      refine hs.step htidy _ fun m hm => ?_
      rcases List.mem_append.1 hm with hm | hm
      · exact (mem_low.1 hm).2
      · exact hs.rl m hm
theorem loopN_sinv {c0 : Nat} {H0 : T AObj} {f : St → Option (AEx × St)} (hf : ∀ st x st', f st = some (x, st') → SInv c0 H0 st → SInv c0 H0 st') : ∀ (k : Nat) (st : St) (x : AEx) (st' : St), loopN f k st = some (x, st') → SInv c0 H0 st → SInv c0 H0 st'
  | 0, _, _, _, h, _ => by simp [loopN_zero] at h
  | k + 1, st, x, st', h, hs => by
    simp only [loopN_succ] at h
    split at h
    · rename_i st1 h1
      exact loopN_sinv hf k _ _ _ h (hf _ _ _ h1 hs)
    · exact hf _ _ _ h hs
theorem evalCode_sinv (hc : CallsOk P G call) {c0 : Nat} {H0 : T AObj} : ∀ (cd : Code) (st : St) (x : AEx) (st' : St), evalCode P call idle G n c0 lf cd st = some (x, st') → SInv c0 H0 st → SInv c0 H0 st'
  | .skip, st, x, st', h, hs | .label _, st, x, st', h, hs | .exit _, st, x, st', h, hs | .ret, st, x, st', h, hs => by simp only [evalCode_skip, evalCode_label, evalCode_exit, evalCode_ret] at h; cases h; exact hs
  | .region _ ops draw, st, x, st', h, hs => by
    simp only [evalCode_region] at h
    split at h
    case h_2 => cases h
    rename_i st1 h1
    cases h
    cases draw with
    | true => exact runDraw_sinv hc h1 hs
    | false => exact runOps_sinv hc _ _ _ h1 hs
  | .seq a b, st, x, st', h, hs => by
    simp only [evalCode_seq] at h
    split at h
    · rename_i st1 h1
      exact evalCode_sinv hc b _ _ _ h (evalCode_sinv hc a _ _ _ h1 hs)
    · exact evalCode_sinv hc a _ _ _ h hs
  | .cond q a b, st, x, st', h, hs => by
    simp only [evalCode_cond] at h
    split at h
    · exact evalCode_sinv hc a _ _ _ h hs
    · exact evalCode_sinv hc b _ _ _ h hs
    · cases h
  | .block id b, st, x, st', h, hs => by
    simp only [evalCode_block] at h
    split at h
    · rename_i k st1 h1
      have := evalCode_sinv hc b _ _ _ h1 hs
      cases hb : Nat.beq k id with
      | true => rw [hb] at h; cases h; exact this
      | false => rw [hb] at h; cases h; exact this
    · exact evalCode_sinv hc b _ _ _ h hs
  | .loop b, st, x, st', h, hs => by
    simp only [evalCode_loop] at h
    exact loopN_sinv (fun s y s' h1 h2 => evalCode_sinv hc b s y s' h1 h2) lf st x st' h hs
  | .scope b, st, x, st', h, hs => by
    simp only [evalCode_scope] at h
    exact evalCode_sinv hc b _ _ _ h hs
  | .rangeFunc .., st, x, st', h, _ | .goto _, st, x, st', h, _ | .refuse _, st, x, st', h, _ => by simp [evalCode_rangeFunc, evalCode_goto, evalCode_refuse] at h

/-! ### the walk -/
def LoopFrom (P : Program) (c : Code) (Q : Exit → Act → World → Prop) (a : Act) (w : World) : Prop :=
  ∀ (b : Frame) (k : List Item) (cs : List Frame), ∃ e a' w', Q e a' w' ∧ Arrives P (lone (b.at a (.code c :: .inLoop c :: k)) cs w) b k cs e a' w'
theorem LoopFrom.wp {c : Code} {Q : Exit → Act → World → Prop} {a : Act} {w : World} (h : LoopFrom P c Q a w) : (Code.loop c).wp P Q a w := by
  intro b k cs
  obtain ⟨e, a', w', hq, harr⟩ := h b k cs
  exact ⟨e, a', w', hq, .of_steps (.one step_loop) harr⟩
theorem LoopFrom.round {c : Code} {Q : Exit → Act → World → Prop} {a : Act} {w : World} (h : c.wp P (Exit.then (LoopFrom P c Q) Q) a w) : LoopFrom P c Q a w := by
  intro b k cs
  obtain ⟨e, a₁, w₁, hq, harr⟩ := h b (.inLoop c :: k) cs
  cases e with
  | normal =>
    obtain ⟨e₂, a₂, w₂, hq₂, harr₂⟩ := hq b k cs
    exact ⟨e₂, a₂, w₂, hq₂, .of_steps (Steps.trans harr (.one step_inLoop)) harr₂⟩
  | exit id => exact ⟨_, a₁, w₁, hq, .pass (x := .inLoop c) rfl (fun _ _ => .inl (by simp)) harr⟩
  | goto l => exact ⟨_, a₁, w₁, hq, .pass (x := .inLoop c) rfl (fun _ _ => .inl (by simp)) harr⟩
  | ret => exact ⟨_, a₁, w₁, hq, .pass (x := .inLoop c) rfl (fun _ _ => .inl (by simp)) harr⟩
  | panic ch => exact ⟨_, a₁, w₁, hq, .pass (x := .inLoop c) rfl (fun _ _ => .inl (by simp)) harr⟩
  | outgrown => exact ⟨_, a₁, w₁, hq, .pass (x := .inLoop c) rfl (fun _ _ => .inl (by simp)) harr⟩
/-- what a piece of code that is computed does -/
def CodeOk (P : Program) (G n : Nat) (B : Start) (cd : Code) (st : St) (x : AEx) (st' : St) : Prop :=
  ∀ (σ : Sig) (E : Heap) (a : Act) (w : World) (Q : Exit → Act → World → Prop), Inv B G n (AllIdle P) st σ E a w → Fresh B.σ B.c st'.c → (∀ m ∈ st'.rl, B.E m = B.H.get m) →
    (∀ σ' E' a' w', Inv B G n (AllIdle P) st' σ' E' a' w' → Q x.up a' w') → cd.wp P Q a w
theorem Fresh.less {σ : Sig} {c c1 c2 : Nat} (h : Fresh σ c c2) (hle : c1 ≤ c2) : Fresh σ c c1 := fun m hm => h m ⟨hm.1, Nat.lt_of_lt_of_le hm.2 hle⟩
theorem loopN_ok (hc : CallsOk P G call) {cd : Code} (hg : ∀ st x st', evalCode P call idle G n B.c lf cd st = some (x, st') → Grow st st') (hb : ∀ st x st', evalCode P call idle G n B.c lf cd st = some (x, st') → CodeOk P G n B cd st x st') :
    ∀ (k : Nat) (st : St) (x : AEx) (st' : St), loopN (evalCode P call idle G n B.c lf cd) k st = some (x, st') → ∀ (σ : Sig) (E : Heap) (a : Act) (w : World) (Q : Exit → Act → World → Prop), Inv B G n (AllIdle P) st σ E a w → Fresh B.σ B.c st'.c → (∀ m ∈ st'.rl, B.E m = B.H.get m) →
    (∀ σ' E' a' w', Inv B G n (AllIdle P) st' σ' E' a' w' → Q x.up a' w') → LoopFrom P cd Q a w
  | 0, _, _, _, h, _, _, _, _, _, _, _, _, _ => by simp [loopN_zero] at h
  | k + 1, st, x, st', h, σ, E, a, w, Q, hi, hf, hr, hQ => by
    simp only [loopN_succ] at h
    split at h
    · rename_i st1 h1
      have hgr := loopN_grow hg k _ _ _ h
      refine LoopFrom.round (hb _ _ _ h1 σ E a w _ hi (hf.less hgr.le) (fun m hm => hr m (hgr.rl m hm)) fun σ' E' a' w' hi' => ?_)
      exact loopN_ok hc hg hb k st1 x st' h σ' E' a' w' Q hi' hf hr hQ
    · rename_i hne
      refine LoopFrom.round (hb _ _ _ h σ E a w _ hi hf hr fun σ' E' a' w' hi' => ?_)
      have hq := hQ σ' E' a' w' hi'
      cases x with
      | normal => exact absurd h (hne st')
      | exit id => exact hq
      | ret => exact hq
theorem evalCode_ok (hP : NamesOk P) (hm : P.follows .mixedOrders = true) (hc : CallsOk P G call) (hI : IdleOk P idle) : ∀ (cd : Code) (st : St) (x : AEx) (st' : St), evalCode P call idle G n B.c lf cd st = some (x, st') → CodeOk P G n B cd st x st'
  | .skip, st, x, st', h => by
    simp only [evalCode_skip] at h; cases h
    exact fun σ E a w Q hi _ _ hQ => wp_skip (hQ σ E a w hi)
  | .label _, st, x, st', h => by
    simp only [evalCode_label] at h; cases h
    exact fun σ E a w Q hi _ _ hQ => wp_label (hQ σ E a w hi)
  | .exit _, st, x, st', h => by
    simp only [evalCode_exit] at h; cases h
    exact fun σ E a w Q hi _ _ hQ => wp_exit (hQ σ E a w hi)
  | .ret, st, x, st', h => by
    simp only [evalCode_ret] at h; cases h
    exact fun σ E a w Q hi _ _ hQ => wp_ret (hQ σ E a w hi)
  | .region _ ops draw, st, x, st', h => by
    simp only [evalCode_region] at h
    split at h
    case h_2 => cases h
    rename_i st1 h1
    cases h
    intro σ E a w Q hi hf hr hQ
    cases draw with
    | true => exact runDraw_ok hP hm hc h1 hi hf hr hQ
    | false => exact runOps_region hP hc hI h1 hi hf hr hQ
  | .seq p q, st, x, st', h => by
    simp only [evalCode_seq] at h
    intro σ E a w Q hi hf hr hQ
    split at h
    · rename_i st1 h1
      have hg := evalCode_grow hc q _ _ _ h
      refine wp_seq (evalCode_ok hP hm hc hI p _ _ _ h1 σ E a w _ hi (hf.less hg.le) (fun m hm => hr m (hg.rl m hm)) fun σ' E' a' w' hi' => ?_)
      exact evalCode_ok hP hm hc hI q _ _ _ h σ' E' a' w' Q hi' hf hr hQ
    · rename_i hne
      refine wp_seq (evalCode_ok hP hm hc hI p _ _ _ h σ E a w _ hi hf hr fun σ' E' a' w' hi' => ?_)
      have hq := hQ σ' E' a' w' hi'
      cases x with
      | normal => exact absurd h (hne st')
      | exit id => exact hq
      | ret => exact hq
  | .cond c p q, st, x, st', h => by
    simp only [evalCode_cond] at h
    intro σ E a w Q hi hf hr hQ
    split at h
    · rename_i hb
      have := hi.frame.knows _ _ hb
      simp only [conc] at this
      injection this with this
      exact wp_cond_true this.symm (evalCode_ok hP hm hc hI p _ _ _ h σ E a w Q hi hf hr hQ)
    · rename_i hb
      have := hi.frame.knows _ _ hb
      simp only [conc] at this
      injection this with this
      exact wp_cond_false this.symm (evalCode_ok hP hm hc hI q _ _ _ h σ E a w Q hi hf hr hQ)
    · cases h
  | .block id b, st, x, st', h => by
    simp only [evalCode_block] at h
    intro σ E a w Q hi hf hr hQ
    split at h
    · rename_i k st1 h1
      cases hb : Nat.beq k id with
      | true =>
        rw [hb] at h; cases h
        have hk := Nat.eq_of_beq_eq_true hb
        refine wp_block (evalCode_ok hP hm hc hI b _ _ _ h1 σ E a w _ hi hf hr fun σ' E' a' w' hi' => ?_)
        simp only [AEx.up, Exit.inBlock, hk, if_true]
        exact hQ σ' E' a' w' hi'
      | false =>
        rw [hb] at h; cases h
        have hk : ¬ k = id := fun e => by subst e; simp at hb
        refine wp_block (evalCode_ok hP hm hc hI b _ _ _ h1 σ E a w _ hi hf hr fun σ' E' a' w' hi' => ?_)
        simp only [AEx.up, Exit.inBlock, hk, if_false]
        exact hQ σ' E' a' w' hi'
    · rename_i hne
      refine wp_block (evalCode_ok hP hm hc hI b _ _ _ h σ E a w _ hi hf hr fun σ' E' a' w' hi' => ?_)
      have hq := hQ σ' E' a' w' hi'
      cases x with
      | normal => exact hq
      | exit k => exact absurd h (hne k st')
      | ret => exact hq
  | .loop b, st, x, st', h => by
    simp only [evalCode_loop] at h
    intro σ E a w Q hi hf hr hQ
    exact (loopN_ok hc (fun s y s' hs => evalCode_grow hc b s y s' hs) (fun s y s' hs => evalCode_ok hP hm hc hI b s y s' hs) lf st x st' h σ E a w Q hi hf hr hQ).wp
  | .scope b, st, x, st', h => by
    simp only [evalCode_scope] at h
    intro σ E a w Q hi hf hr hQ
    refine wp_scope_straight (evalCode_ok hP hm hc hI b _ _ _ h σ E a w _ hi hf hr fun σ' E' a' w' hi' => ?_)
    have hq := hQ σ' E' a' w' hi'
    cases x <;> exact hq
  | .rangeFunc .., st, x, st', h | .goto _, st, x, st', h | .refuse _, st, x, st', h => by simp [evalCode_rangeFunc, evalCode_goto, evalCode_refuse] at h
end
end
end Go.Proofs.YtpcejpcbkjnlkaaGreatDoor.AE

namespace Go.Proofs.YtpcejpcbkjnlkaaGreatDoor.AE
noncomputable section
open Go.RowKit
section
variable {P : Program} {call : CallFn} {idle : FuncId → Bool} {G lf : Nat}
noncomputable def callBody (P : Program) (call : CallFn) (idle : FuncId → Bool) (G lf : Nat) (fn : Func) (code : Code) (args : List Value) (H : T AObj) (c : Nat) : Option Out :=
  match evalCode P call idle G (args.length + (fn.ntmps - args.length)) c lf code ⟨T.ofList 0 args .nil, H, c, [], []⟩ with
  | some (.exit _, _) => none
  | some (_, st) => match resA P st.ts st.H.get fn.results.toList with
    | some (vs, rd) => bif allLow st.c rd then some ⟨tupleOf vs, st.H, st.c, low c rd ++ st.rl, st.wl⟩ else none
    | none => none
  | none => none
theorem callBody_split {fn : Func} {code : Code} {args : List Value} {H : T AObj} {c : Nat} {out : Out} (h : callBody P call idle G lf fn code args H c = some out) :
    ∃ x st vs rd, evalCode P call idle G (args.length + (fn.ntmps - args.length)) c lf code ⟨T.ofList 0 args .nil, H, c, [], []⟩ = some (x, st) ∧ (x = .normal ∨ x = .ret) ∧ resA P st.ts st.H.get fn.results.toList = some (vs, rd) ∧ allLow st.c rd = true ∧ out = ⟨tupleOf vs, st.H, st.c, low c rd ++ st.rl, st.wl⟩ := by
  unfold callBody at h
  split at h
  · cases h
  · rename_i x st hne he
    split at h
    case h_2 => cases h
    rename_i vs rd hres
    cases hb : allLow st.c rd with
    | false => rw [hb] at h; cases h
    | true =>
      rw [hb, cond_true] at h
      cases h
      refine ⟨x, st, vs, rd, he, ?_, hres, hb, rfl⟩
      cases x with
      | normal => exact .inl rfl
      | exit k => exact absurd rfl (hne k)
      | ret => exact .inr rfl
  · cases h
theorem callBody_tidy (hc : CallsOk P G call) {fn : Func} {code : Code} {args : List Value} {H : T AObj} {c : Nat} {out : Out} (h : callBody P call idle G lf fn code args H c = some out) : Tidy H c out := by
  obtain ⟨x, st, vs, rd, he, _, _, hb, rfl⟩ := callBody_split h
  have hs := evalCode_sinv hc code _ _ _ he (c0 := c) (H0 := H) ⟨Nat.le_refl _, by simp, by simp, fun _ _ _ => rfl⟩
  refine ⟨hs.le, hs.wl, fun m hm => ?_, hs.keep⟩
  rcases List.mem_append.1 hm with hm | hm
  · exact (mem_low.1 hm).2
  · exact hs.rl m hm
theorem callBody_ok (hP : NamesOk P) (hm : P.follows .mixedOrders = true) (hc : CallsOk P G call) (hI : IdleOk P idle) {f : FuncId} {fn : Func} {code : Code} (hfn : P.funcs[f]? = some fn) (hcode : fn.body = some code) {args : List Value} {H : T AObj} {c : Nat} {out : Out}
    (h : callBody P call idle G lf fn code args H c = some out) : CallOk P G f args H c out := by
  obtain ⟨x, st, vs, rd, he, hx, hres, hb, rfl⟩ := callBody_split h
  have hs := evalCode_sinv hc code _ _ _ he (c0 := c) (H0 := H) ⟨Nat.le_refl _, by simp, by simp, fun _ _ _ => rfl⟩
  intro σ w E args' hsat hfr hread hargs hglob
  have hlen := (concL_get _ _ hargs).1
  let B : Start := ⟨σ, w, E, H, c⟩
  have hstart : Inv B G (args.length + (fn.ntmps - args.length)) (AllIdle P) ⟨T.ofList 0 args .nil, H, c, [], []⟩ σ E { tmps := args'.toArray ++ Array.replicate (fn.ntmps - args'.toArray.size) undef, defers := [] } w := by
    refine ⟨Run.refl hsat _ (fun m hm => by simp at hm), fun m hm => ?_, fun _ _ _ => rfl, by simp, ⟨by simp [hlen], fun t v hv => ?_, hglob⟩, fun d hd => by simp at hd⟩
    · rcases hm with hm | hm
      · simp at hm
      · have : c ≤ m ∧ m < c := hm
        omega
    · rw [T.get_ofList] at hv
      by_cases ht : 0 ≤ t ∧ t < 0 + args.length
      · rw [if_pos ht] at hv
        simp only [Nat.sub_zero] at hv
        obtain ⟨v', h1, h2⟩ := (concL_get _ _ hargs).2 t v hv
        refine ⟨v', h1, ?_⟩
        rw [Array.getElem?_append_left (by simp; omega)]
        simpa using h2
      · rw [if_neg ht, T.get_nil] at hv; cases hv
  have hread' : ∀ m ∈ st.rl, B.E m = B.H.get m := fun m hmem => hread m (List.mem_append_right _ hmem)
  refine calls_of_wp_defers hfn hcode (evalCode_ok (B := B) hP hm hc hI code _ _ _ he σ E _ w _ hstart hfr hread' fun σ' E' a' w' hi => ?_)
  -- the results
  have hrd : ∀ m ∈ rd, E' m = st.H.get m := fun m hmem => hi.look (allLow_mem hb hmem) fun h1 _ => hread m (List.mem_append_left _ (mem_low.2 ⟨hmem, h1⟩))
  obtain ⟨vs', c1, c2⟩ := resA_ok hi.run.sat hi.frame fn.results.toList vs rd hres hrd
  have hE' : E' = mix st.wl c st.c st.H.get E := by
    funext m
    by_cases hin : m ∈ st.wl ∨ (c ≤ m ∧ m < st.c)
    · rw [mix_in hin]; exact hi.agree m hin
    · rw [mix_out hin]
      exact hi.run.keep m (fun e => hin (.inl e)) (fun e => hin (.inr e))
  have hresult : (results fn a'.tmps).run P w' = .ok (if hh : vs'.toArray.size = 1 then vs'.toArray[0] else .tuple vs'.toArray) w' := by
    unfold results
    have hmap : (fn.results.mapM fun | .tmp t => pure (a'.tmps.getD t undef) | .cell b t => do loadVar t (← asAddr (a'.tmps.getD b undef)) : Sem (Array Value)).run P w' = .ok vs'.toArray w' := by
      rw [Array.mapM_eq_mapM_toList, ← bind_pure_comp, Sem.run_bind]
      refine (congrArg (fun r => Result.andThen r _) c2).trans ?_
      rfl
    rw [Sem.run_bind]
    refine (congrArg (fun r => Result.andThen r _) hmap).trans ?_
    rfl
  have hpost := leaves_idle (R := fun e w' => ∃ σ' v', e = .returned v' ∧ conc σ' (tupleOf vs) = some v' ∧ Run σ w E c (· ∈ st.wl) st.c (mix st.wl c st.c st.H.get E) σ' w') hresult ⟨σ', _, rfl, conc_tupleOf c1, by rw [← hE']; exact hi.run⟩ a'.defers hi.defers
  rcases hx with hx | hx
  · subst hx; exact hpost
  · subst hx; exact hpost
/-- calls within calls, to a depth; some calls are told by others -/
noncomputable def callN (P : Program) (idle : FuncId → Bool) (G lf : Nat) (sums : CallFn) : Nat → CallFn
  | 0 => sums
  | d + 1 => fun f args H c => match sums f args H c with
    | some out => some out
    | none => match P.funcs[f]? with
      | some fn => match fn.body with
        | some code => callBody P (callN P idle G lf sums d) idle G lf fn code args H c
        | none => none
      | none => none
theorem callN_ok (hP : NamesOk P) (hm : P.follows .mixedOrders = true) (hI : IdleOk P idle) {sums : CallFn} (hs : CallsOk P G sums) : ∀ d, CallsOk P G (callN P idle G lf sums d)
  | 0 => hs
  | d + 1 => by
    have ih := callN_ok hP hm hI hs d
    have split : ∀ f args H c out, callN P idle G lf sums (d + 1) f args H c = some out → sums f args H c = some out ∨ ∃ fn code, P.funcs[f]? = some fn ∧ fn.body = some code ∧ callBody P (callN P idle G lf sums d) idle G lf fn code args H c = some out := fun f args H c out h => by
      simp only [callN] at h
      split at h
      · rename_i o ho; cases h; exact .inl ho
      · split at h
        case h_2 => cases h
        rename_i fn hfn
        split at h
        case h_2 => cases h
        rename_i code hcode
        exact .inr ⟨fn, code, hfn, hcode, h⟩
    refine ⟨fun f args H c out h => ?_, fun f args H c out h => ?_⟩
    · rcases split f args H c out h with h1 | ⟨fn, code, h1, h2, h3⟩
      · exact hs.tidy _ _ _ _ _ h1
      · exact callBody_tidy ih h3
    · rcases split f args H c out h with h1 | ⟨fn, code, h1, h2, h3⟩
      · exact hs.ok _ _ _ _ _ h1
      · exact callBody_ok hP hm ih hI h1 h2 h3
def noSums : CallFn := fun _ _ _ _ => none
theorem noSums_ok : CallsOk P G noSums := ⟨fun _ _ _ _ _ h => by simp [noSums] at h, fun _ _ _ _ _ h => by simp [noSums] at h⟩
/-- a call with no heap to look at -/
theorem call_closed (hP : NamesOk P) (hm : P.follows .mixedOrders = true) (hI : IdleOk P idle) {sums : CallFn} (hs : CallsOk P 0 sums) {d : Nat} {f : FuncId} {args : List Value} {v : Value} {H' : T AObj} {c' : Nat} {R W : List Nat}
    (h : callN P idle 0 lf sums d f args .nil 0 = some ⟨v, H', c', R, W⟩) (ha : plainL args = true) (hv : plainV v = true) (w : World) :
    Calls P f args.toArray w fun e w' => e = .returned v ∧ Below w.heap.size w w' := by
  have hc := (callN_ok (lf := lf) hP hm hI hs d).ok _ _ _ _ _ h
  have ht := (callN_ok (lf := lf) hP hm hI hs d).tidy _ _ _ _ _ h
  refine Calls.mono (hc (fun _ => none) w (fun _ => none) args ⟨fun n o h => (by cases h), fun _ _ _ _ _ _ h => (by cases h)⟩ (fun _ _ => rfl) (fun m hm => absurd (ht.rlow m hm) (Nat.not_lt_zero _)) (plainL_conc _ _ ha) (fun g hg => absurd hg (Nat.not_lt_zero _))) fun e w' he => ?_
  obtain ⟨σ', v', rfl, h1, h2⟩ := he
  rw [plain_conc σ' v hv] at h1
  cases h1
  exact ⟨rfl, h2.fr.os, h2.fr.tape, h2.fr.output, h2.fr.size, fun k hk => h2.fr.block k hk fun n p _ hp => (by cases hp)⟩
end
end
end Go.Proofs.YtpcejpcbkjnlkaaGreatDoor.AE

/- A walk by computing: reading and writing rows, loads, stores, new objects. Conditions: none. A walk by computing: loads, stores and new objects. Conditions: none. -/
import Derived.Test.YtpcejpcbkjnlkaaGreatDoorZa1
import Derived.Laws.Cells
import Derived.Laws.IdiomCopy
set_option linter.unusedVariables false
namespace Go.Proofs.YtpcejpcbkjnlkaaGreatDoor.AE
noncomputable section
open Go.RowKit

/-- what an operation does: its value, the objects set, the names that end, how many names it makes, what it reads -/
structure Res where
  v : Value
  sets : List (Nat × AObj)
  kills : List Nat
  used : Nat
  reads : List Nat
def applySets (E : Heap) : List (Nat × AObj) → Heap
  | [] => E
  | x :: l => applySets (upd E x.1 (some x.2)) l
def applyKills (E : Heap) : List Nat → Heap
  | [] => E
  | n :: l => applyKills (upd E n none) l
def Res.heap (r : Res) (E : Heap) : Heap := applySets (applyKills E r.kills) r.sets
def Res.W (r : Res) : Nat → Prop := fun n => n ∈ r.kills ∨ n ∈ r.sets.map (·.1)
/-- the operands that are known -/
def Knows (σ : Sig) (ev : Operand → Option Value) (ρ : Operand → Value) : Prop := ∀ x v, ev x = some v → conc σ v = some (ρ x)
/-- a term that gives a value or nothing, with the effect r -/
def Does (P : Program) (ev : Operand → Option Value) (look : Heap) (c : Nat) (s : (Operand → Value) → Sem Next) (r : Res) : Prop :=
  ∀ (σ : Sig) (w : World) (E : Heap) (ρ : Operand → Value), Sat σ E w → Fresh σ c (c + r.used) → (∀ n ∈ r.reads, E n = look n) → Knows σ ev ρ →
    ∃ n' v' σ' w', (s ρ).run P w = .ok n' w' ∧ (n' = .value v' ∨ (n' = .skip ∧ v' = undef)) ∧ conc σ' r.v = some v' ∧ Run σ w E c r.W (c + r.used) (r.heap E) σ' w'
section
variable {P : Program} {ev : Operand → Option Value} {look : Heap} {c : Nat}
theorem Run.congr {σ σ' : Sig} {w w' : World} {E E1 E2 : Heap} {c c' : Nat} {W W' : Nat → Prop} (h : Run σ w E c W c' E1 σ' w') (hW : ∀ n, W n → W' n) (hE : ∀ n, E1 n = E2 n) (hd : ∀ n, W' n → (∃ o, E n = some o) ∨ New c c' n)
    (hk : ∀ n, W' n → ¬ W n → True) : Run σ w E c W' c' E2 σ' w' := by
  have e : E1 = E2 := funext hE
  subst e
  exact ⟨h.le, h.sat, h.same, ⟨h.fr.os, h.fr.tape, h.fr.output, h.fr.size, fun b hb hn => h.fr.block b hb (fun n p hw => hn n p (hW n hw))⟩, fun n hn => h.keep n (fun e => hn (hW n e)), hd, fun n p hn hp => (h.new n p hn hp).imp id (fun ⟨m, q, a, b⟩ => ⟨m, q, hW m a, b⟩)⟩
/-- nothing happens to the heap -/
theorem Does.pure {s : (Operand → Value) → Sem Next} {v : Value} (h : ∀ σ w ρ, Knows σ ev ρ → ∃ v', (s ρ).run P w = .ok (.value v') w ∧ conc σ v = some v') : Does P ev look c s ⟨v, [], [], 0, []⟩ := by
  intro σ w E ρ hs _ _ hk
  obtain ⟨v', h1, h2⟩ := h σ w ρ hk
  exact ⟨_, v', σ, w, h1, .inl rfl, h2, (Run.stay hs).congr (fun _ h => h.elim) (fun _ => rfl) (fun n hn => by simp [Res.W] at hn) (fun _ _ _ => trivial)⟩
end

/-! ### rows -/
def readN (len : Nat) (cells : T Value) (d : Option Value) : Nat → Nat → Option (List Value)
  | _, 0 => some []
  | i, n + 1 => match cellAt len cells d i, readN len cells d (i + 1) n with
    | some v, some l => some (v :: l)
    | _, _ => none
theorem readN_spec {len : Nat} {cells : T Value} {d : Option Value} : ∀ (n i : Nat) (l : List Value), readN len cells d i n = some l → l.length = n ∧ ∀ j v, l[j]? = some v → cellAt len cells d (i + j) = some v
  | 0, i, l, h => by simp only [readN] at h; cases h; exact ⟨rfl, fun j v hv => by simp at hv⟩
  | n + 1, i, l, h => by
    simp only [readN] at h
    split at h
    · rename_i v r hv hr
      cases h
      obtain ⟨h1, h2⟩ := readN_spec n (i + 1) r hr
      refine ⟨by simp [h1], fun j u hu => ?_⟩
      cases j with
      | zero => simp at hu; subst hu; exact hv
      | succ j => simp at hu; have := h2 j u hu; rwa [show i + 1 + j = i + (j + 1) by omega] at this
    · cases h
theorem conc_list {σ : Sig} {C : Array Value} {len : Nat} {cells : T Value} {d : Option Value} (hC : ∀ i v, cellAt len cells d i = some v → ∃ v', conc σ v = some v' ∧ C[i]? = some v') (n i : Nat) (l : List Value) (h : readN len cells d i n = some l) :
    ∃ l', concL σ l = some l' ∧ l'.length = n ∧ ∀ j v, l'[j]? = some v → C[i + j]? = some v := by
  obtain ⟨h1, h2⟩ := readN_spec n i l h
  obtain ⟨l', hl⟩ := concL_of (σ := σ) l (fun v hv => by
    obtain ⟨j, hj, rfl⟩ := List.mem_iff_getElem.1 hv
    obtain ⟨v', hv', _⟩ := hC _ _ (h2 j _ (List.getElem?_eq_getElem hj))
    exact ⟨v', hv'⟩)
  obtain ⟨h3, h4⟩ := concL_get l l' hl
  refine ⟨l', hl, by omega, fun j v hv => ?_⟩
  have hj : j < l.length := by rw [← h3]; exact (List.getElem?_eq_some_iff.1 hv).1
  obtain ⟨u', hu1, hu2⟩ := h4 j _ (List.getElem?_eq_getElem hj)
  obtain ⟨x, hx1, hx2⟩ := hC _ _ (h2 j _ (List.getElem?_eq_getElem hj))
  rw [hu1] at hx1
  rw [hu2] at hv
  cases hx1; cases hv
  exact hx2
theorem cell_row {w : World} {b : Nat} {C : Array Value} {e : TypeId} {fr : Nat × Nat} (h : w.heap[b]? = some (.cells C e fr)) (i : Nat) : w.cell? ⟨b, i, none⟩ = C[i]? := cell_of_row w b i C e fr h
theorem add_at (b o i : Nat) : (⟨b, o, none⟩ : Addr).add i = ⟨b, o + i, none⟩ := by unfold Addr.add; split <;> simp_all
theorem store_cells {P : Program} (b o : Nat) : ∀ (vs : List Value) (i : Nat) (w : World) (C : Array Value) (e : TypeId) (fr : Nat × Nat), w.heap[b]? = some (.cells C e fr) → o + i + vs.length ≤ C.size →
    (∀ j, j < C.size → ¬ (fr.1 ≤ j ∧ j < fr.2)) → (∀ v ∈ vs, v.oneCell' = true) →
    ∃ w' C', (storeCells ⟨b, o, none⟩ vs i).run P w = .ok () w' ∧ w'.heap[b]? = some (.cells C' e fr) ∧ C'.size = C.size ∧
      (∀ j, C'[j]? = if o + i ≤ j ∧ j < o + i + vs.length then vs[j - (o + i)]? else C[j]?) ∧ (∀ k, k ≠ b → w'.heap[k]? = w.heap[k]?) ∧ w'.heap.size = w.heap.size ∧ w'.os = w.os ∧ w'.tape = w.tape ∧ w'.output = w.output
  | [], i, w, C, e, fr, h, _, _, _ => ⟨w, C, rfl, h, rfl, fun j => by rw [if_neg (by simp)], fun _ _ => rfl, rfl, rfl, rfl, rfl⟩
  | v :: vs, i, w, C, e, fr, h, hl, hf, h1 => by
    have hlen : o + i < C.size := by simp at hl; omega
    have hcell : w.cell? ⟨b, o + i, none⟩ = some C[o + i] := by rw [cell_row h]; simp [hlen]
    have hfro : w.frozen? ⟨b, o + i, none⟩ = false := by
      have h2 := hf (o + i) hlen
      obtain ⟨lo, hi⟩ := fr
      simp only [World.frozen?, h]
      simpa using h2
    have hst : (store ((⟨b, o, none⟩ : Addr).add i) v).run P w = .ok () (w.setCell ⟨b, o + i, none⟩ v) := by
      rw [add_at, run_store P w _ v _ (h1 v (by simp))]
      simp [hcell, hfro]
    have hh : (w.setCell ⟨b, o + i, none⟩ v).heap[b]? = some (.cells (C.setIfInBounds (o + i) v) e fr) := by
      simp [World.setCell, Array.getElem?_modify, h]
    obtain ⟨w', C', r1, r2, r3, r4, r5, r6, r7, r8, r9⟩ := store_cells (P := P) b o vs (i + 1) (w.setCell ⟨b, o + i, none⟩ v) _ e fr hh (by simp at hl ⊢; omega) (by simpa using hf) (fun u hu => h1 u (by simp [hu]))
    refine ⟨w', C', ?_, r2, by simpa using r3, fun j => ?_, fun k hk => ?_, by rw [r6]; simp [World.setCell], r7, r8, r9⟩
    · simp only [storeCells, Sem.run_bind, hst, Result.andThen_ok]
      exact r1
    · rw [r4 j]
      by_cases hj : j = o + i
      · subst hj
        rw [if_neg (by omega), if_pos (by simp)]
        simp [hlen]
      · by_cases h2 : o + (i + 1) ≤ j ∧ j < o + (i + 1) + vs.length
        · rw [if_pos h2, if_pos (by simp; omega)]
          have : j - (o + i) = (j - (o + (i + 1))) + 1 := by omega
          rw [this]; simp
        · rw [if_neg h2, if_neg (by simp; omega), Array.getElem?_setIfInBounds, if_neg (fun e => hj e.symm)]
    · rw [r5 k hk]
      exact Below.heap_setCell w ⟨b, o + i, none⟩ v k hk
end
end Go.Proofs.YtpcejpcbkjnlkaaGreatDoor.AE

namespace Go.Proofs.YtpcejpcbkjnlkaaGreatDoor.AE
noncomputable section
open Go.RowKit

def asV (s : Sem Value) : Sem Next := do pure (.value (← s))
def asU (s : Sem Unit) : Sem Next := do s; pure .skip
theorem asV_run {P : Program} {s : Sem Value} {w w' : World} {v : Value} (h : s.run P w = .ok v w') : (asV s).run P w = .ok (.value v) w' := by
  show (Sem.bind s fun a => Sem.pure (Next.value a)).run P w = _
  rw [show (Sem.bind s fun a => Sem.pure (Next.value a)) = (s >>= fun a => pure (Next.value a)) from rfl, Sem.run_bind, h]
  rfl
theorem asU_run {P : Program} {s : Sem Unit} {w w' : World} (h : s.run P w = .ok () w') : (asU s).run P w = .ok .skip w' := by
  show (s >>= fun _ => pure Next.skip).run P w = _
  rw [Sem.run_bind, h]
  rfl
theorem conc_ptr {σ : Sig} {n off : Nat} {v' : Value} (h : conc σ (.pointer (some ⟨n, off, none⟩)) = some v') : ∃ p, σ n = some p ∧ v' = .pointer (some ⟨p.1, off, none⟩) := by
  simp only [conc] at h
  split at h
  · rename_i p hp; cases h; exact ⟨p, hp, rfl⟩
  · cases h
theorem At.row {σ : Sig} {w : World} {n len : Nat} {cells : T Value} {d : Option Value} {e : TypeId} {sp : Option Nat} (h : At σ w n (.row len cells d e sp)) {p : Nat × Nat} (hp : σ n = some p) :
    ∃ C fr, w.heap[p.1]? = some (.cells C e fr) ∧ len ≤ C.size ∧ (∀ i, i < C.size → ¬ (fr.1 ≤ i ∧ i < fr.2)) ∧ SpareOk p.2 len C.size sp ∧
      ∀ i v, cellAt len cells d i = some v → ∃ v', conc σ v = some v' ∧ C[i]? = some v' := by
  obtain ⟨b, cap, h1, h2⟩ := h
  rw [hp] at h1
  cases h1
  exact h2

def loadOp (P : Program) (ev : Operand → Option Value) (look : Heap) (t : TypeId) (x : Operand) : Option Res :=
  match ev x with
  | some (.pointer (some ⟨n, off, none⟩)) =>
    match look n with
    | some (.row len cells d _ _) =>
      match runP P (isAgg t) with
      | some true =>
        match runP P (sizeOf t) with
        | some k => match readN len cells d off k with
          | some l => some ⟨.agg ⟨l⟩, [], [], 0, [n]⟩
          | none => none
        | none => none
      | some false => match cellAt len cells d off with
        | some v => some ⟨v, [], [], 0, [n]⟩
        | none => none
      | none => none
    | _ => none
  | _ => none
section
variable {P : Program} {ev : Operand → Option Value} {look : Heap} {c : Nat}
theorem loadOp_does {t : TypeId} {x : Operand} {r : Res} (h : loadOp P ev look t x = some r) : Does P ev look c (fun ρ => asV (Instr.loadAt t (ρ x))) r := by
  unfold loadOp at h
  split at h
  case h_2 => cases h
  rename_i n off hx
  split at h
  case h_2 => cases h
  rename_i len cells d e sp hl
  intro σ w E ρ hs hf hr hk
  obtain ⟨p, hp, hv⟩ := conc_ptr (hk _ _ hx)
  have fin : ∀ v u, r = ⟨u, [], [], 0, [n]⟩ → (∀ C fr, E n = some (.row len cells d e sp) → w.heap[p.1]? = some (.cells C e fr) → (∀ i v, cellAt len cells d i = some v → ∃ v', conc σ v = some v' ∧ C[i]? = some v') → (Instr.loadAt t (ρ x)).run P w = .ok v w ∧ conc σ u = some v) →
      ∃ n' v' σ' w', (asV (Instr.loadAt t (ρ x))).run P w = .ok n' w' ∧ (n' = .value v' ∨ (n' = .skip ∧ v' = undef)) ∧ conc σ' r.v = some v' ∧ Run σ w E c r.W (c + r.used) (r.heap E) σ' w' := by
    rintro v u rfl hq
    have hE : E n = some (.row len cells d e sp) := by rw [hr n (by simp), hl]
    obtain ⟨C, fr, h1, -, -, -, h5⟩ := (hs.obj n _ hE).row hp
    obtain ⟨q1, q2⟩ := hq C fr hE h1 h5
    exact ⟨_, v, σ, w, asV_run q1, .inl rfl, q2, (Run.stay hs).congr (fun _ h => h.elim) (fun _ => rfl) (fun n hn => by simp [Res.W] at hn) (fun _ _ _ => trivial)⟩
  split at h
  · rename_i hag
    split at h
    case h_2 => cases h
    rename_i k hk'
    split at h
    case h_2 => cases h
    rename_i l hl'
    have hr' : r = ⟨.agg ⟨l⟩, [], [], 0, [n]⟩ := by cases h; rfl
    have hE : E n = some (.row len cells d e sp) := by rw [hr n (by rw [hr']; simp), hl]
    obtain ⟨C, fr, h1, -, -, -, h5⟩ := (hs.obj n _ hE).row hp
    obtain ⟨l', c1, c2, c3⟩ := conc_list h5 k off l hl'
    refine fin (.agg l'.toArray) _ hr' (fun C' fr' _ h1' _ => ⟨?_, by simp only [conc, concA, c1]⟩)
    rw [h1] at h1'
    cases h1'
    rw [hv]
    have hld : (loadCells ⟨p.1, off, none⟩ k).run P w = .ok l'.toArray w := by
      have := run_loadCells_list (P := P) (w := w) ⟨p.1, off, none⟩ l' (fun j v hj => by rw [add_at, cell_row h1]; exact c3 j v hj)
      rwa [c2] at this
    simp [Instr.loadAt, Instr.sureAddr, loadVar, runP_run w _ _ hag, runP_run w _ _ hk', hld]
  · rename_i hag
    split at h
    case h_2 => cases h
    rename_i v hcv
    have hr' : r = ⟨v, [], [], 0, [n]⟩ := by cases h; rfl
    have hE : E n = some (.row len cells d e sp) := by rw [hr n (by rw [hr']; simp), hl]
    obtain ⟨C, fr, h1, -, -, -, h5⟩ := (hs.obj n _ hE).row hp
    obtain ⟨v', q1, q2⟩ := h5 off v hcv
    refine fin v' _ hr' (fun C' fr' _ h1' _ => ⟨?_, q1⟩)
    rw [hv]
    have hc := cell_row h1 off
    rw [q2] at hc
    simp [Instr.loadAt, Instr.sureAddr, loadVar, runP_run w _ _ hag, hc]
  · cases h

/-! ### stores -/
def oneV : Value → Bool
  | .agg _ | .tuple _ => false
  | _ => true
theorem conc_one {σ : Sig} {v v' : Value} (h : conc σ v = some v') (h1 : oneV v = true) : v'.oneCell' = true := by
  cases v with
  | agg cs => simp [oneV] at h1
  | tuple cs => simp [oneV] at h1
  | pointer a => cases a <;> simp only [conc] at h <;> (try split at h) <;> cases h <;> rfl
  | slice a l c => cases a <;> simp only [conc] at h <;> (try split at h) <;> cases h <;> rfl
  | map a => cases a <;> simp only [conc] at h <;> (try split at h) <;> cases h <;> rfl
  | func f x y => simp only [conc] at h; split at h <;> cases h; rfl
  | iface t x => simp only [conc] at h; split at h <;> cases h; rfl
  | chan a => simp [conc] at h
  | _ => simp only [conc] at h; cases h; rfl
theorem concL_one {σ : Sig} {l l' : List Value} (h : concL σ l = some l') (h1 : l.all oneV = true) : ∀ v ∈ l', v.oneCell' = true := by
  intro v hv
  obtain ⟨j, hj, rfl⟩ := List.mem_iff_getElem.1 hv
  obtain ⟨h2, h3⟩ := concL_get l l' h
  have hj' : j < l.length := by omega
  obtain ⟨x, hx, hx2⟩ := h3 j _ (List.getElem?_eq_getElem hj')
  rw [List.getElem?_eq_getElem hj] at hx2
  cases hx2
  exact conc_one hx (List.all_eq_true.1 h1 _ (List.getElem_mem hj'))
/-- a row with some cells set -/
def setRowA (len : Nat) (cells : T Value) (d : Option Value) (e : TypeId) (sp : Option Nat) (off : Nat) (l : List Value) : AObj := .row len (T.ofList off l cells) d e sp
theorem setRowA_is {σ : Sig} {cap len : Nat} {cells : T Value} {d : Option Value} {e : TypeId} {sp : Option Nat} {off : Nat} {l l' : List Value} {C C' : Array Value} {fr : Nat × Nat}
    (hle : len ≤ C.size) (hf : ∀ i, i < C.size → ¬ (fr.1 ≤ i ∧ i < fr.2)) (hsp : SpareOk cap len C.size sp) (h5 : ∀ i v, cellAt len cells d i = some v → ∃ v', conc σ v = some v' ∧ C[i]? = some v')
    (hl : concL σ l = some l') (hsz : C'.size = C.size) (hC' : ∀ j, C'[j]? = if off ≤ j ∧ j < off + l'.length then l'[j - off]? else C[j]?) {ob : Option Obj} (hob : ob = some (.cells C' e fr)) :
    ObjIs σ cap (setRowA len cells d e sp off l) ob := by
  obtain ⟨c1, c2⟩ := concL_get l l' hl
  refine ⟨C', fr, hob, by omega, by rw [hsz]; exact hf, ?_, fun i v hv => ?_⟩
  · rw [hsz]; exact hsp
  · have hi := cellAt_lt hv
    unfold cellAt at hv
    have hb : Nat.blt i len = true := by simpa using hi
    rw [hb, cond_true, T.get_ofList] at hv
    rw [hC' i, c1]
    by_cases hin : off ≤ i ∧ i < off + l.length
    · rw [if_pos hin] at hv ⊢
      have hlt : i - off < l.length := by omega
      rw [List.getElem?_eq_getElem hlt] at hv
      cases hv
      exact c2 _ _ (List.getElem?_eq_getElem hlt)
    · rw [if_neg hin] at hv ⊢
      refine h5 i v ?_
      unfold cellAt
      rw [hb, cond_true]
      exact hv
def storeOp (P : Program) (ev : Operand → Option Value) (look : Heap) (t : TypeId) (x y : Operand) : Option Res :=
  match ev x with
  | some (.pointer (some ⟨n, off, none⟩)) =>
    match look n, ev y with
    | some (.row len cells d e sp), some v =>
      match runP P (sizeOf t) with
      | some k => bif Nat.beq v.cells.size k && Nat.ble (off + k) len && v.cells.toList.all oneV then some ⟨undef, [(n, setRowA len cells d e sp off v.cells.toList)], [], 0, [n]⟩ else none
      | none => none
    | _, _ => none
  | _ => none
theorem conc_undef (σ : Sig) : conc σ undef = some undef := by simp [undef, conc, concA, concL]
theorem storeOp_does {t : TypeId} {x y : Operand} {r : Res} (h : storeOp P ev look t x y = some r) : Does P ev look c (fun ρ => asU (Instr.storeAt t (ρ x) (ρ y))) r := by
  unfold storeOp at h
  split at h
  case h_2 => cases h
  rename_i n off hx
  split at h
  case h_2 => cases h
  rename_i len cells d e sp v hl hy
  split at h
  case h_2 => cases h
  rename_i k hk'
  cases hb : (Nat.beq v.cells.size k && Nat.ble (off + k) len && v.cells.toList.all oneV) with
  | false => rw [hb] at h; cases h
  | true =>
    rw [hb, cond_true] at h
    simp only [Bool.and_eq_true] at hb
    obtain ⟨⟨b1, b2⟩, b3⟩ := hb
    have b1 := Nat.eq_of_beq_eq_true b1
    have b2 := Nat.le_of_ble_eq_true b2
    cases h
    intro σ w E ρ hs hf hr hk
    obtain ⟨p, hp, hv⟩ := conc_ptr (hk _ _ hx)
    have hE : E n = some (.row len cells d e sp) := by rw [hr n (by simp), hl]
    obtain ⟨C, fr, h1, h2, h3, h4, h5⟩ := (hs.obj n _ hE).row hp
    have hcc := conc_cells (hk _ _ hy)
    obtain ⟨g1, g2⟩ := concL_get _ _ hcc
    have hone := concL_one hcc b3
    have hsz : (ρ y).cells.toList.length = k := by rw [g1]; simpa using b1
    obtain ⟨w', C', s1, s2, s3, s4, s5, s6, s7, s8, s9⟩ := store_cells (P := P) p.1 off (ρ y).cells.toList 0 w C e fr h1 (by omega) h3 hone
    refine ⟨.skip, undef, σ, w', asU_run ?_, .inr ⟨rfl, rfl⟩, conc_undef σ, ?_⟩
    · rw [hv]
      have hsz' : (ρ y).cells.size = k := by simpa using hsz
      simp [Instr.storeAt, Instr.sureAddr, storeVar, runP_run w _ _ hk', hsz', s1]
    · refine (Run.turn hs n p.1 p.2 _ (setRowA len cells d e sp off v.cells.toList) hE hp w' ⟨s7, s8, s9⟩ s6 s5 ?_).congr (fun m hm => by subst hm; simp [Res.W]) (fun m => rfl) (fun m hm => ?_) (fun _ _ _ => trivial)
      · refine setRowA_is h2 h3 h4 h5 hcc s3 (fun j => ?_) s2
        have := s4 j
        simpa using this
      · simp [Res.W] at hm
        subst hm
        exact .inl ⟨_, hE⟩

/-! ### new objects -/
def oneNew (c : Nat) (v : Value) (o : AObj) (reads : List Nat) : Res := ⟨v, [(c, o)], [], 1, reads⟩
theorem oneNew_does {s : (Operand → Value) → Sem Next} {v : Value} {o : AObj} {reads : List Nat}
    (h : ∀ (σ : Sig) (w : World) (E : Heap) (ρ : Operand → Value), Sat σ E w → (∀ n ∈ reads, E n = look n) → Knows σ ev ρ → ∃ ob cap v', (s ρ).run P w = .ok (.value v') (w.alloc ob) ∧ (∀ σ', Ext σ σ' → ObjIs σ' cap o (some ob)) ∧ conc (upd σ c (some (w.heap.size, cap))) v = some v') :
    Does P ev look c s (oneNew c v o reads) := by
  intro σ w E ρ hs hf hr hk
  obtain ⟨ob, cap, v', h1, h2, h3⟩ := h σ w E ρ hs hr hk
  refine ⟨_, v', _, _, h1, .inl rfl, h3, (Run.make hs hf o ob cap h2).congr (fun _ h => h.elim) (fun m => rfl) (fun m hm => ?_) (fun _ _ _ => trivial)⟩
  simp [Res.W, oneNew] at hm
  subst hm
  exact .inr ⟨Nat.le_refl _, by simp⟩
def boxOp (ev : Operand → Option Value) (c : Nat) (t : TypeId) (x : Operand) : Option Res :=
  match ev x with
  | some v => some (oneNew c (.pointer (some ⟨c, 0, none⟩)) (rowOf v.cells.toList t) [])
  | none => none
theorem boxOp_does {t : TypeId} {x : Operand} {r : Res} (h : boxOp ev c t x = some r) : Does P ev look c (fun ρ => asV (Instr.box t (ρ x))) r := by
  unfold boxOp at h
  split at h
  case h_2 => cases h
  rename_i v hx
  cases h
  refine oneNew_does fun σ w E ρ hs _ hk => ⟨.cells (ρ x).cells t, 0, .pointer (some ⟨w.heap.size, 0, none⟩), asV_run ?_, fun σ' he => ?_, ?_⟩
  · simp [Instr.box, newVar, newRow]
  · have := isRow (concL_ext he _ _ (conc_cells (hk _ _ hx))) t 0
    simpa using this
  · simp [conc, upd_same]
def allocOp (P : Program) (c : Nat) (t : TypeId) : Option Res :=
  match runP P (zeroValue t) with
  | some z => bif plainV z then some (oneNew c (.pointer (some ⟨c, 0, none⟩)) (rowOf z.cells.toList t) []) else none
  | none => none
theorem allocOp_does {t : TypeId} {r : Res} (h : allocOp P c t = some r) : Does P ev look c (fun _ => asV (Instr.alloc t true (.tuple #[]))) r := by
  unfold allocOp at h
  split at h
  case h_2 => cases h
  rename_i z hz
  cases hb : plainV z with
  | false => rw [hb] at h; cases h
  | true =>
    rw [hb, cond_true] at h
    cases h
    refine oneNew_does fun σ w E ρ hs _ hk => ⟨.cells z.cells t, 0, .pointer (some ⟨w.heap.size, 0, none⟩), asV_run ?_, fun σ' he => ?_, ?_⟩
    · simp [Instr.alloc, runP_run w _ _ hz, newVar, newRow]
    · have := isRow (conc_cells (plain_conc σ' z hb)) t 0
      simpa using this
    · simp [conc, upd_same]
end
end
end Go.Proofs.YtpcejpcbkjnlkaaGreatDoor.AE

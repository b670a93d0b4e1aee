/- A walk by computing: new maps and slices, len, copy, append. Conditions: none. A walk by computing: copy and append. Conditions: none. A walk by computing: append. Conditions: none. A walk by computing: maps. Conditions: none. A walk by computing: maps that change, iteration. Conditions: none. -/
import Derived.Test.YtpcejpcbkjnlkaaGreatDoorZa3
import Derived.ArgAppend
set_option linter.unusedVariables false
namespace Go.Proofs.YtpcejpcbkjnlkaaGreatDoor.AE
noncomputable section
open Go.RowKit

section
variable {P : Program} {ev : Operand → Option Value} {look : Heap} {c : Nat}
/-! ### new maps and slices -/
def makeMapOp (c : Nat) (r : Option Operand) : Option Res :=
  match r with
  | none => some (oneNew c (.map (some c)) (.map [] 0) [])
  | some _ => none
theorem makeMapOp_does {t : TypeId} {q : Option Operand} {r : Res} (h : makeMapOp c q = some r) : Does P ev look c (fun ρ => asV (Instr.makeMap t (q.map ρ))) r := by
  unfold makeMapOp at h
  split at h
  case h_2 => cases h
  cases h
  refine oneNew_does fun σ w E ρ hs _ hk => ⟨.map #[] 0, 0, .map (some w.heap.size), asV_run ?_, fun σ' he => ⟨[], .nil, rfl⟩, ?_⟩
  · exact run_makeMap _ _
  · simp only [conc, upd_same]
/-- a row of n cells, all of them one value, or some few given ones -/
def zeroRow (z : Value) (n : Nat) (e : TypeId) : Option AObj :=
  match z.cells.toList with
  | [v] => some (.row n .nil (some v) e none)
  | _ => bif Nat.ble n 4096 then some (rowOf ((Array.range n).map (z.cells[· % z.cells.size]!)).toList e) else none
theorem zeroRow_is {z : Value} {n : Nat} {e : TypeId} {o : AObj} (hz : plainV z = true) (h : zeroRow z n e = some o) (σ : Sig) (cap : Nat) : ObjIs σ cap o (some (.cells ((Array.range n).map (z.cells[· % z.cells.size]!)) e)) := by
  unfold zeroRow at h
  split at h
  · rename_i v hv
    cases h
    have hcz : z.cells = #[v] := by rw [← Array.toList_inj]; simpa using hv
    have hp := plain_cells σ hz
    rw [hcz] at hp ⊢
    have hv' : conc σ v = some v := by
      obtain ⟨v', h1, h2⟩ := (concA_get hp).2 0 v (by simp)
      simp at h2
      subst h2
      exact h1
    refine ⟨_, (0, 0), rfl, by simp, fun i _ => by omega, by simp [SpareOk], fun i u hu => ?_⟩
    have hi := cellAt_lt hu
    have hb : Nat.blt i n = true := by simpa using hi
    unfold cellAt at hu
    rw [hb, cond_true, T.get_nil] at hu
    injection hu with hu
    subst hu
    exact ⟨v, hv', by simp [hi, Nat.mod_one]⟩
  · cases hb : Nat.ble n 4096 with
    | false => rw [hb] at h; cases h
    | true =>
      rw [hb, cond_true] at h
      cases h
      have := isRow (concA_list (repeat_plain σ hz n)) e cap
      rwa [Array.toArray_toList] at this
def makeSliceOp (P : Program) (ev : Operand → Option Value) (c : Nat) (t : TypeId) (l m : Operand) : Option Res :=
  match P.underlying t, ev l, ev m with
  | some (.slice elem), some (.int _ (.ofNat a)), some (.int _ (.ofNat b)) =>
    match P.info? elem, zeroOf P elem with
    | some i, some z => bif Nat.ble a b && Nat.blt b BIG && Nat.ble b 9223372036854775807 && Nat.ble (i.bytes * b) 281474976710656 then
        (match zeroRow z (b * i.size) elem with
        | some o => some (oneNew c (.slice (some ⟨c, 0, none⟩) a b) o [])
        | none => none)
      else none
    | _, _ => none
  | _, _, _ => none
theorem conc_int {σ : Sig} {k : IntKind} {n : Int} {v : Value} (h : conc σ (.int k n) = some v) : v = .int k n := by
  simp only [conc] at h; cases h; rfl
theorem blt_lt {a b : Nat} (h : Nat.blt a b = true) : a < b := by simpa using h
theorem makeSliceOp_does {t : TypeId} {l m : Operand} {r : Res} (h : makeSliceOp P ev c t l m = some r) : Does P ev look c (fun ρ => asV (Instr.makeSlice t (ρ l) (ρ m))) r := by
  unfold makeSliceOp at h
  split at h
  case h_2 => cases h
  rename_i elem k1 a k2 b hu hl hm
  split at h
  case h_2 => cases h
  rename_i i z hi hz
  cases hb : (Nat.ble a b && Nat.blt b BIG && Nat.ble b 9223372036854775807 && Nat.ble (i.bytes * b) 281474976710656) with
  | false => rw [hb] at h; cases h
  | true =>
    rw [hb, cond_true] at h
    split at h
    case h_2 => cases h
    rename_i o ho
    cases h
    simp only [Bool.and_eq_true] at hb
    have b1 := Nat.le_of_ble_eq_true hb.1.1.1
    have b2 := blt_lt hb.1.1.2
    have b3 := Nat.le_of_ble_eq_true hb.1.2
    have b4 := Nat.le_of_ble_eq_true hb.2
    obtain ⟨i', hi', hzz, hp⟩ := zeroOf_spec hz
    rw [hi] at hi'
    cases hi'
    refine oneNew_does fun σ w E ρ hs _ hk => ?_
    have e1 := conc_int (hk _ _ hl)
    have e2 := conc_int (hk _ _ hm)
    have hb4 : (i.bytes : Int) * (Int.ofNat b) ≤ 281474976710656 := by
      have h : ((i.bytes * b : Nat) : Int) ≤ 281474976710656 := by omega
      rw [Int.natCast_mul] at h
      exact h
    have hr := run_make (P := P) w t elem i z hu hi hzz k1 k2 (Int.ofNat a) (Int.ofNat b) (Int.natCast_nonneg a) (by simp only [Int.ofNat_eq_natCast]; omega) hb4 (by simp only [Int.ofNat_eq_natCast]; omega)
    refine ⟨_, 0, _, asV_run (by rw [e1, e2]; exact hr), fun σ' he => ?_, ?_⟩
    · exact zeroRow_is hp ho σ' 0
    · simp only [conc, upd_same, if_pos b2]
      rfl

/-! ### len -/
def lenOp (P : Program) (ev : Operand → Option Value) (look : Heap) (t : TypeId) (x : Operand) : Option Res :=
  match P.underlying t, ev x with
  | some .string, some (.string s) => some (pureRes (goInt s.size))
  | some (.slice _), some (.slice _ n _) => some (pureRes (goInt n))
  | some (.array n _), some _ => some (pureRes (goInt n))
  | some (.map _ _), some (.map none) => some (pureRes (goInt 0))
  | some (.map _ _), some (.map (some r)) => match look r with
    | some (.map es _) => some ⟨goInt es.length, [], [], 0, [r]⟩
    | _ => none
  | _, _ => none
theorem conc_slice' {σ : Sig} {a : Option Addr} {n k : Nat} {v : Value} (h : conc σ (.slice a n k) = some v) : ∃ a' k', v = .slice a' n k' := by
  cases a with
  | none => simp only [conc] at h; cases h; exact ⟨_, _, rfl⟩
  | some a => simp only [conc] at h; split at h <;> cases h; exact ⟨_, _, rfl⟩
theorem conc_map {σ : Sig} {r : Nat} {v : Value} (h : conc σ (.map (some r)) = some v) : ∃ p, σ r = some p ∧ v = .map (some p.1) := by
  simp only [conc] at h; split at h <;> cases h; rename_i p hp; exact ⟨p, hp, rfl⟩
theorem conc_goInt (σ : Sig) (n : Nat) : conc σ (goInt n) = some (goInt n) := by simp [goInt, conc]
theorem Ents.length {σ : Sig} {l : List AEntry} {l' : List MapEntry} (h : Ents σ l l') : l'.length = l.length := by
  induction h with
  | nil => rfl
  | cons _ _ _ ih => simp [ih]
theorem At.map {σ : Sig} {w : World} {n clock : Nat} {es : List AEntry} (h : At σ w n (.map es clock)) {p : Nat × Nat} (hp : σ n = some p) : ∃ l, Ents σ es l ∧ w.heap[p.1]? = some (.map l.toArray clock) := by
  obtain ⟨b, cap, h1, h2⟩ := h
  rw [hp] at h1
  cases h1
  exact h2
theorem run_getMap {w : World} {b clock : Nat} {l : Array MapEntry} (h : w.heap[b]? = some (.map l clock)) : (getObj b).run P w = .ok (.map l clock) w := by
  simp [getObj, Sem.run, h]
theorem lenOp_does {t ty : TypeId} {ts : Array TypeId} {x : Operand} {r : Res} (h0 : ts[0]? = some t) (h : lenOp P ev look t x = some r) : Does P ev look c (fun ρ => asV (Builtin.len_ ts ty #[ρ x])) r := by
  unfold lenOp at h
  split at h
  · rename_i s hu hx
    cases h
    refine Does.pure fun σ w ρ hk => ⟨_, asV_run ?_, conc_goInt σ _⟩
    have := hk _ _ hx
    simp only [conc] at this
    injection this with this
    rw [← this]
    simp [Builtin.len_, h0, run_underlying hu]
  · rename_i n k hu hx
    cases h
    refine Does.pure fun σ w ρ hk => ⟨_, asV_run ?_, conc_goInt σ _⟩
    obtain ⟨a', k', e⟩ := conc_slice' (hk _ _ hx)
    rw [e]
    simp [Builtin.len_, h0, run_underlying hu]
  · rename_i n k hu hx
    cases h
    refine Does.pure fun σ w ρ hk => ⟨_, asV_run ?_, conc_goInt σ _⟩
    simp [Builtin.len_, h0, run_underlying hu]
  · rename_i hu hx
    cases h
    refine Does.pure fun σ w ρ hk => ⟨_, asV_run ?_, conc_goInt σ _⟩
    have := hk _ _ hx
    simp only [conc] at this
    injection this with this
    rw [← this]
    simp [Builtin.len_, h0, run_underlying hu]
  · rename_i r' hu hx
    split at h
    case h_2 => cases h
    rename_i es clock hl
    cases h
    refine Does.reads fun σ w E ρ hs hr hk => ?_
    obtain ⟨p, hp, e⟩ := conc_map (hk _ _ hx)
    have hE : E r' = some (.map es clock) := by rw [hr r' (by simp), hl]
    obtain ⟨l, h1, h2⟩ := (hs.obj r' _ hE).map hp
    refine ⟨goInt es.length, asV_run ?_, conc_goInt σ _⟩
    rw [e]
    simp [Builtin.len_, h0, run_underlying hu, run_getMap h2, h1.length]
  · cases h

/-! ### what append and copy read -/
/-- length, cells, names read -/
def srcA (look : Heap) (k : Nat) : Value → Option (Nat × List Value × List Nat)
  | .slice (some ⟨n, off, none⟩) l _ => match look n with
    | some (.row len cells d _ _) => match readN len cells d off (l * k) with
      | some vs => some (l, vs, [n])
      | none => none
    | _ => none
  | .slice none 0 _ => some (0, [], [])
  | .string s => bif Nat.beq k 1 then some (s.size, s.data.toList.map fun b => .int .u8 b.toNat, []) else none
  | _ => none
theorem srcA_ok {k n : Nat} {v v' : Value} {vs : List Value} {rd : List Nat} {σ : Sig} {w : World} {E : Heap} (h : srcA look k v = some (n, vs, rd)) (hs : Sat σ E w) (hr : ∀ m ∈ rd, E m = look m) (hc : conc σ v = some v') :
    ∃ vs', concL σ vs = some vs' ∧ vs'.length = n * k ∧ (∀ w0, (Builtin.lenOf v').run P w0 = .ok n w0) ∧ ∀ w0, w0.heap = w.heap → ∀ m, m ≤ n → (Builtin.firstCells k m v').run P w0 = .ok (vs'.take (m * k)).toArray w0 := by
  unfold srcA at h
  split at h
  · rename_i b off l cp
    split at h
    case h_2 => cases h
    rename_i len cells d e sp hl
    split at h
    case h_2 => cases h
    rename_i us hus
    cases h
    obtain ⟨p, hp, rfl⟩ := conc_slice hc
    have hE : E b = some (.row len cells d e sp) := by rw [hr b (by simp), hl]
    obtain ⟨C, fr, h1, -, -, -, h5⟩ := (hs.obj b _ hE).row hp
    obtain ⟨l', c1, c2, c3⟩ := conc_list h5 _ off _ hus
    refine ⟨l', c1, c2, fun w0 => by simp [Builtin.lenOf], fun w0 hw m hm => ?_⟩
    refine run_firstCells_some (P := P) w0 k m ⟨p.1, off, none⟩ _ _ _ ?_ fun j u hj => ?_
    · rw [List.length_take, c2]; exact Nat.min_eq_left (Nat.mul_le_mul_right _ hm)
    · rw [add_at, cell_row (by rw [hw]; exact h1)]
      exact c3 j u (by rw [List.getElem?_take] at hj; split at hj; exact hj; cases hj)
  · cases h
    simp only [conc] at hc
    cases hc
    refine ⟨[], by simp [concL], by simp, fun w0 => by simp [Builtin.lenOf], fun w0 hw m hm => ?_⟩
    simp [Builtin.firstCells]
  · rename_i s
    cases hb : Nat.beq k 1 with
    | false => rw [hb] at h; cases h
    | true =>
      rw [hb, cond_true] at h
      cases h
      have hk1 := Nat.eq_of_beq_eq_true hb
      subst hk1
      simp only [conc] at hc
      cases hc
      have hcl : ∀ l : List UInt8, concL σ (l.map fun b => Value.int .u8 b.toNat) = some (l.map fun b => Value.int .u8 b.toNat) := by
        intro l
        induction l with
        | nil => simp [concL]
        | cons a l ih => simp only [List.map_cons, concL, conc, ih]
      refine ⟨_, hcl _, by simp, fun w0 => by simp [Builtin.lenOf], fun w0 hw m hm => ?_⟩
      simp only [Builtin.firstCells, Sem.run_pure, Nat.mul_one]
      congr 1
      apply Array.ext'
      simp [ByteArray.extract, ByteArray.copySlice]
  · cases h
end
end
end Go.Proofs.YtpcejpcbkjnlkaaGreatDoor.AE

namespace Go.Proofs.YtpcejpcbkjnlkaaGreatDoor.AE
noncomputable section
open Go.RowKit

section
variable {P : Program} {ev : Operand → Option Value} {look : Heap} {c : Nat}
/-- cells written into a row -/
theorem row_write {σ : Sig} {w : World} {E : Heap} {n len off : Nat} {cells : T Value} {d : Option Value} {e : TypeId} {sp : Option Nat} {l l' : List Value} {p : Nat × Nat} (c : Nat) (P : Program)
    (hs : Sat σ E w) (hE : E n = some (.row len cells d e sp)) (hp : σ n = some p) (hl : concL σ l = some l') (h1 : l.all oneV = true) (hle : off + l.length ≤ len) :
    ∃ w', (storeCells ⟨p.1, off, none⟩ l').run P w = .ok () w' ∧ Run σ w E c (· = n) c (upd E n (some (setRowA len cells d e sp off l))) σ w' := by
  obtain ⟨C, fr, g1, g2, g3, g4, g5⟩ := (hs.obj n _ hE).row hp
  obtain ⟨q1, _⟩ := concL_get _ _ hl
  obtain ⟨w', C', s1, s2, s3, s4, s5, s6, s7, s8, s9⟩ := store_cells (P := P) p.1 off l' 0 w C e fr g1 (by omega) g3 (concL_one hl h1)
  refine ⟨w', s1, Run.turn hs n p.1 p.2 _ (setRowA len cells d e sp off l) hE hp w' ⟨s7, s8, s9⟩ s6 s5 ?_⟩
  exact setRowA_is g2 g3 g4 g5 hl s3 (fun j => by have := s4 j; simpa using this) s2
theorem concL_take {σ : Sig} {l l' : List Value} (h : concL σ l = some l') (k : Nat) : concL σ (l.take k) = some (l'.take k) := by
  induction l generalizing l' k with
  | nil => simp only [concL] at h; cases h; simp [concL]
  | cons v l ih =>
    simp only [concL] at h
    split at h
    case h_2 => cases h
    rename_i v' r h1 h2
    cases h
    cases k with
    | zero => simp [concL]
    | succ k => simp only [List.take_succ_cons, concL, h1, ih h2 k]
theorem concL_append {σ : Sig} {l l' m m' : List Value} (h : concL σ l = some l') (k : concL σ m = some m') : concL σ (l ++ m) = some (l' ++ m') := by
  induction l generalizing l' with
  | nil => simp only [concL] at h; cases h; exact k
  | cons v l ih =>
    simp only [concL] at h
    split at h
    case h_2 => cases h
    rename_i v' r h1 h2
    cases h
    simp only [List.cons_append, concL, h1, ih h2]
def copyOp (P : Program) (ev : Operand → Option Value) (look : Heap) (t : TypeId) (x y : Operand) : Option Res :=
  match P.underlying t, ev x, ev y with
  | some (.slice elem), some (.slice base dl _), some vy =>
    match runP P (sizeOf elem) with
    | some k => match srcA look k vy with
      | some (n, vs, rd) =>
        match base with
        | none => some ⟨goInt (Nat.min n dl), [], [], 0, rd⟩
        | some ⟨b, off, none⟩ => match look b with
          | some (.row len cells d e sp) =>
            bif Nat.ble (off + (vs.take (Nat.min n dl * k)).length) len && (vs.take (Nat.min n dl * k)).all oneV then some ⟨goInt (Nat.min n dl), [(b, setRowA len cells d e sp off (vs.take (Nat.min n dl * k)))], [], 0, b :: rd⟩ else none
          | _ => none
        | _ => none
      | none => none
    | none => none
  | _, _, _ => none
theorem copyOp_does {t ty : TypeId} {ts : Array TypeId} {x y : Operand} {r : Res} (h0 : ts[0]? = some t) (h : copyOp P ev look t x y = some r) : Does P ev look c (fun ρ => asV (Builtin.copy_ ts ty #[ρ x, ρ y])) r := by
  unfold copyOp at h
  split at h
  case h_2 => cases h
  rename_i elem base dl cp vy hu hx hy
  split at h
  case h_2 => cases h
  rename_i k hk'
  split at h
  case h_2 => cases h
  rename_i n vs rd hsrc
  split at h
  · cases h
    refine Does.reads fun σ w E ρ hs hr hk => ?_
    obtain ⟨vs', c1, c2, c3, c4⟩ := srcA_ok (P := P) hsrc hs hr (hk _ _ hy)
    have ex := hk _ _ hx
    simp only [conc] at ex
    injection ex with ex
    refine ⟨_, asV_run ?_, conc_goInt σ _⟩
    rw [← ex]
    simp [Builtin.copy_, h0, run_underlying hu, runP_run w _ _ hk', c3 w, c4 w rfl _ (Nat.min_le_left n dl)]
  · rename_i b off
    split at h
    case h_2 => cases h
    rename_i len cells d e sp hl
    cases hb : (Nat.ble (off + (vs.take (Nat.min n dl * k)).length) len && (vs.take (Nat.min n dl * k)).all oneV) with
    | false => rw [hb] at h; cases h
    | true =>
      rw [hb, cond_true] at h
      cases h
      simp only [Bool.and_eq_true] at hb
      have b1 := Nat.le_of_ble_eq_true hb.1
      intro σ w E ρ hs hf hr hk
      obtain ⟨vs', c1, c2, c3, c4⟩ := srcA_ok (P := P) hsrc hs (fun m hm => hr m (by simp [hm])) (hk _ _ hy)
      obtain ⟨p, hp, ex⟩ := conc_slice (hk _ _ hx)
      have hE : E b = some (.row len cells d e sp) := by rw [hr b (by simp), hl]
      obtain ⟨w', s1, s2⟩ := row_write c P hs hE hp (concL_take c1 (Nat.min n dl * k)) hb.2 b1
      refine ⟨_, goInt (Nat.min n dl), σ, w', asV_run ?_, .inl rfl, conc_goInt σ _, s2.congr (fun m hm => by subst hm; simp [Res.W]) (fun m => rfl) (fun m hm => ?_) (fun _ _ _ => trivial)⟩
      · rw [ex]
        simp [Builtin.copy_, h0, run_underlying hu, runP_run w _ _ hk', c3 w, c4 w rfl _ (Nat.min_le_left n dl), s1]
      · simp [Res.W] at hm
        subst hm
        exact .inl ⟨_, hE⟩
  · cases h

/-! ### append -/
/-- a name is forgotten -/
theorem Run.kill {σ : Sig} {w : World} {E : Heap} (c : Nat) (hs : Sat σ E w) (n : Nat) (hn : ∃ o, E n = some o) : Run σ w E c (· = n) c (upd E n none) σ w := by
  have sub : ∀ m o, upd E n none m = some o → E m = some o := fun m o h => by
    by_cases hm : m = n
    · subst hm; rw [upd_same] at h; cases h
    · rwa [upd_ne _ _ _ hm] at h
  refine ⟨Nat.le_refl _, ⟨fun m o h => hs.obj m o (sub m o h), fun m k o o' p q h1 h2 => hs.inj m k o o' p q (sub _ _ h1) (sub _ _ h2)⟩, fun _ _ => rfl, Fr.refl _ _ _, fun m hm _ => upd_ne _ _ _ hm, fun m hm => .inl (by subst hm; exact hn), fun m p h _ => by have := h.1; have := h.2; omega⟩
/-- an object is written and gets a new name -/
theorem Run.rename {σ : Sig} {w w' : World} {E : Heap} {c n : Nat} (hs : Sat σ E w) (hf : Fresh σ c (c + 1)) (p : Nat × Nat) (o o' : AObj) (hn : E n = some o) (hp : σ n = some p)
    (hos : w'.os = w.os ∧ w'.tape = w.tape ∧ w'.output = w.output) (hsz : w'.heap.size = w.heap.size) (hbl : ∀ k, k ≠ p.1 → w'.heap[k]? = w.heap[k]?) (ho : ∀ σ', Ext σ σ' → ObjIs σ' p.2 o' w'.heap[p.1]?) :
    Run σ w E c (fun m => m = n) (c + 1) (upd (upd E n none) c (some o')) (upd σ c (some p)) w' := by
  have hc : σ c = none := hf c ⟨Nat.le_refl _, Nat.lt_succ_self _⟩
  have hnc : n ≠ c := fun e => by rw [e, hc] at hp; cases hp
  have hx : Ext σ (upd σ c (some p)) := fun m q hq => by
    by_cases hm : m = c
    · subst hm; rw [hc] at hq; cases hq
    · rw [upd_ne _ _ _ hm]; exact hq
  have old : ∀ m x, m ≠ c → upd (upd E n none) c (some o') m = some x → E m = some x ∧ m ≠ n := fun m x hm h => by
    rw [upd_ne _ _ _ hm] at h
    by_cases hmn : m = n
    · subst hmn; rw [upd_same] at h; cases h
    · rw [upd_ne _ _ _ hmn] at h; exact ⟨h, hmn⟩
  refine ⟨Nat.le_succ _, ⟨fun m x h => ?_, fun m k x y q r h1 h2 hq hr e => ?_⟩, fun m hm => upd_ne _ _ _ (fun e => hm ⟨by omega, by omega⟩), ⟨hos.1, hos.2.1, hos.2.2, by omega, fun b _ hb => hbl b (fun e => hb n p rfl hp e.symm)⟩, fun m h1 h2 => ?_, fun m hm => .inl ⟨o, by rw [hm]; exact hn⟩, fun m q hm hq => ?_⟩
  · by_cases hm : m = c
    · subst hm
      rw [upd_same] at h; cases h
      exact ⟨p.1, p.2, upd_same _ _ _, ho _ hx⟩
    · obtain ⟨h3, h4⟩ := old m x hm h
      obtain ⟨b, cap, h5, h6⟩ := hs.obj m x h3
      refine ⟨b, cap, hx _ _ h5, ?_⟩
      rw [hbl b (fun e => h4 (hs.inj m n x o (b, cap) p h3 hn h5 hp e))]
      exact h6.ext hx
  · by_cases hm : m = c
    · by_cases hk : k = c
      · rw [hm, hk]
      · subst hm
        rw [upd_same] at hq; cases hq
        obtain ⟨h3, h4⟩ := old k y hk h2
        rw [upd_ne _ _ _ hk] at hr
        exact absurd (hs.inj k n y o r p h3 hn hr hp e.symm) h4
    · by_cases hk : k = c
      · subst hk
        rw [upd_same] at hr; cases hr
        obtain ⟨h3, h4⟩ := old m x hm h1
        rw [upd_ne _ _ _ hm] at hq
        exact absurd (hs.inj m n x o q p h3 hn hq hp e) h4
      · rw [upd_ne _ _ _ hm] at hq
        rw [upd_ne _ _ _ hk] at hr
        exact hs.inj m k x y q r (old m x hm h1).1 (old k y hk h2).1 hq hr e
  · rw [upd_ne _ _ _ (fun e => h2 ⟨by omega, by omega⟩), upd_ne _ _ _ h1]
  · have := New.one hm
    subst this
    rw [upd_same] at hq; cases hq
    exact .inr ⟨n, p, rfl, fun hh => hnc (New.one hh), by rw [upd_ne _ _ _ hnc, upd_same], hp, rfl⟩
end
end
end Go.Proofs.YtpcejpcbkjnlkaaGreatDoor.AE

namespace Go.Proofs.YtpcejpcbkjnlkaaGreatDoor.AE
noncomputable section
open Go.RowKit

section
variable {P : Program} {ev : Operand → Option Value} {look : Heap} {c : Nat}
theorem oneNewD_does {s : (Operand → Value) → Sem Next} {v : Value} {o : AObj} {reads : List Nat}
    (h : ∀ (σ : Sig) (w : World) (E : Heap) (ρ : Operand → Value), Sat σ E w → (∀ n ∈ reads, E n = look n) → Knows σ ev ρ → ∃ ob cap v', (s ρ).run P w = .ok (.value v') (w.drew.alloc ob) ∧ (∀ σ', Ext σ σ' → ObjIs σ' cap o (some ob)) ∧ conc (upd σ c (some (w.heap.size, cap))) v = some v') :
    Does P ev look c s (oneNew c v o reads) := by
  intro σ w E ρ hs hf hr hk
  obtain ⟨ob, cap, v', h1, h2, h3⟩ := h σ w E ρ hs hr hk
  refine ⟨_, v', _, _, h1, .inl rfl, h3, (Run.seq hf (Run.asked hs) (Run.make (σ := σ) (E := E) (c := c) hs.drew hf o ob cap h2)).congr (fun _ h => h.elim (fun h => h.elim) (fun h => h.elim)) (fun m => rfl) (fun m hm => ?_) (fun _ _ _ => trivial)⟩
  simp [Res.W, oneNew] at hm
  subst hm
  exact .inr ⟨Nat.le_refl _, by simp [oneNew]⟩
def sliceOrString : TypeDesc → Bool
  | .slice _ | .string => true
  | _ => false
theorem append_room_run {t u ty elem : TypeId} {ud : TypeDesc} {k n sl cp b off : Nat} {x : Value} {new : Array Value} {w w' : World} (hu : P.underlying t = some (.slice elem)) (hv : P.underlying u = some ud) (hud : sliceOrString ud = true)
    (hk : runP P (sizeOf elem) = some k) (h1 : (Builtin.lenOf x).run P w = .ok n w) (h2 : (Builtin.firstCells k n x).run P w = .ok new w) (hroom : sl + n ≤ cp) (hst : (storeCells ⟨b, off + sl * k, none⟩ new.toList).run P w = .ok () w') :
    (Builtin.append_ #[t, u] ty #[.slice (some ⟨b, off, none⟩) sl cp, x]).run P w = .ok (.slice (some ⟨b, off, none⟩) (sl + n) cp) w' := by
  cases ud <;> first | (simp [sliceOrString] at hud; done) | simp [Builtin.append_, run_underlying hu, run_underlying hv, runP_run w _ _ hk, h1, h2, hroom, add_at, hst]
theorem append_nil_run {t u ty elem : TypeId} {ud : TypeDesc} {k cp : Nat} {x : Value} {new : Array Value} {w : World} (hu : P.underlying t = some (.slice elem)) (hv : P.underlying u = some ud) (hud : sliceOrString ud = true)
    (hk : runP P (sizeOf elem) = some k) (h1 : (Builtin.lenOf x).run P w = .ok 0 w) (h2 : (Builtin.firstCells k 0 x).run P w = .ok new w) :
    (Builtin.append_ #[t, u] ty #[.slice none 0 cp, x]).run P w = .ok (.slice none 0 cp) w := by
  cases ud <;> first | (simp [sliceOrString] at hud; done) | simp [Builtin.append_, run_underlying hu, run_underlying hv, runP_run w _ _ hk, h1, h2]
theorem append_grow_run {t u ty elem : TypeId} {ud : TypeDesc} {i : TypeInfo} {z : Value} {n sl cp : Nat} {base : Option Addr} {x : Value} {old new : Array Value} {w : World} (hu : P.underlying t = some (.slice elem)) (hv : P.underlying u = some ud) (hud : sliceOrString ud = true)
    (hi : P.info? elem = some i) (hz : i.zero = some z) (h1 : (Builtin.lenOf x).run P w = .ok n w) (h2 : (Builtin.firstCells i.size n x).run P w.drew = .ok new w.drew) (h3 : (Builtin.firstCells i.size sl (.slice base sl cp)).run P w.drew = .ok old w.drew)
    (hno : cp < sl + n) (h63 : sl + n ≤ 9223372036854775807) (h48 : 2 * (sl + n) * i.bytes ≤ 281474976710656) :
    (Builtin.append_ #[t, u] ty #[.slice base sl cp, x]).run P w = .ok (.slice (some ⟨w.heap.size, 0, none⟩) (sl + n) (grownCap w (sl + n) cp elem)) (w.drew.alloc (.cells (old ++ new ++ Builtin.zeroCells z.cells (grownCap w (sl + n) cp elem - (sl + n))) elem)) := by
  have hn : ¬ (sl + n ≤ cp) := by omega
  have h63' : ¬ (9223372036854775807 < ((sl : Int) + (n : Int))) := by omega
  have hle := nextslicecap_le hno
  have h48' : ¬ (281474976710656 < Builtin.nextslicecap (sl + n) cp * i.bytes) := by
    have := Nat.mul_le_mul_right i.bytes hle
    omega
  cases ud <;> first | (simp [sliceOrString] at hud; done) | simp [Builtin.append_, run_underlying hu, run_underlying hv, sizeOf, typeInfo, zeroValue, hi, hz, h1, hn, h63', h48', Question.forced, h2, h3, newRow, grownCap]

/-- a row made by an append that grows -/
theorem grown_row {σ : Sig} {l' : List Value} {k need cap : Nat} {z : Array Value} {e : TypeId} {len : Nat} {cells : T Value} {d : Option Value} (hz : z.size = k) (hlen : len = need * k) (hl' : l'.length = need * k) (hcap : need ≤ cap) (hm : cap ≤ maxLen)
    (h : ∀ i v, cellAt len cells d i = some v → ∃ v', conc σ v = some v' ∧ l'[i]? = some v') : ObjIs σ cap (.row len cells d e (some k)) (some (.cells (l'.toArray ++ Builtin.zeroCells z (cap - need)) e)) := by
  have hsz : (l'.toArray ++ Builtin.zeroCells z (cap - need)).size = cap * k := by
    rw [Array.size_append, size_zeroCells, hz, List.size_toArray, hl', ← Nat.add_mul]
    congr 1; omega
  refine ⟨_, (0, 0), rfl, ?_, fun i _ => by omega, ⟨hsz, hm⟩, fun i v hv => ?_⟩
  · rw [hsz, hlen]; exact Nat.mul_le_mul_right _ hcap
  · obtain ⟨v', h1, h2⟩ := h i v hv
    refine ⟨v', h1, ?_⟩
    have hi : i < l'.length := (List.getElem?_eq_some_iff.1 h2).1
    rw [Array.getElem?_append_left (by simpa using hi)]
    simpa using h2
/-- what append needs to know of the types: element, size, cells of its zero, bytes -/
def appendKind (P : Program) (t u : TypeId) : Option (TypeId × TypeInfo × Value × TypeDesc) :=
  match P.underlying t, P.underlying u with
  | some (.slice elem), some ud => match P.info? elem with
    | some i => match i.zero with
      | some z => bif sliceOrString ud && Nat.beq z.cells.size i.size && Nat.blt 0 i.size then some (elem, i, z, ud) else none
      | none => none
    | none => none
  | _, _ => none
theorem appendKind_spec {t u elem : TypeId} {i : TypeInfo} {z : Value} {ud : TypeDesc} (h : appendKind P t u = some (elem, i, z, ud)) :
    P.underlying t = some (.slice elem) ∧ P.underlying u = some ud ∧ sliceOrString ud = true ∧ P.info? elem = some i ∧ i.zero = some z ∧ z.cells.size = i.size ∧ 0 < i.size ∧ runP P (sizeOf elem) = some i.size := by
  unfold appendKind at h
  split at h
  case h_2 => cases h
  rename_i e' ud' hu hv
  split at h
  case h_2 => cases h
  rename_i i' hi
  split at h
  case h_2 => cases h
  rename_i z' hz
  cases hb : (sliceOrString ud' && Nat.beq z'.cells.size i'.size && Nat.blt 0 i'.size) with
  | false => rw [hb] at h; cases h
  | true =>
    rw [hb, cond_true] at h
    cases h
    simp only [Bool.and_eq_true] at hb
    exact ⟨hu, hv, hb.1.1, hi, hz, Nat.eq_of_beq_eq_true hb.1.2, blt_lt hb.2, by simp [sizeOf, typeInfo, program, runP, hi, Bind.bind, Sem.bind, Pure.pure]⟩
/-- onto nothing, a whole row -/
def appendFast (P : Program) (ev : Operand → Option Value) (look : Heap) (c : Nat) (t u : TypeId) (x y : Operand) : Option Res :=
  match appendKind P t u, ev x, ev y with
  | some (elem, i, _, _), some (.slice base 0 cp), some (.slice (some ⟨b, 0, none⟩) n _) => match look b with
    | some (.row len cells (some d) _ _) =>
      bif Nat.blt cp n && Nat.blt cp BIG && Nat.ble (n * i.size) len && Nat.ble (2 * n * i.bytes) 281474976710656 && Nat.ble n 9223372036854775807 then
        some (oneNew c (.slice (some ⟨c, 0, none⟩) n BIG) (.row (n * i.size) cells (some d) elem (some i.size)) [b])
      else none
    | _ => none
  | _, _, _ => none
def appendSlow (P : Program) (ev : Operand → Option Value) (look : Heap) (c : Nat) (t u : TypeId) (x y : Operand) : Option Res :=
  match appendKind P t u, ev x, ev y with
  | some (elem, i, _, _), some (.slice none 0 0), some vy => match srcA look i.size vy with
    | some (n, vs, rd) => bif Nat.beq n 0 then some ⟨.slice none 0 0, [], [], 0, rd⟩ else
        bif Nat.ble (2 * n * i.bytes) 281474976710656 && Nat.ble n 9223372036854775807 then
          some (oneNew c (.slice (some ⟨c, 0, none⟩) n BIG) (.row (n * i.size) (T.ofList 0 vs .nil) none elem (some i.size)) rd) else none
    | none => none
  | some (elem, i, _, _), some (.slice (some ⟨b, off, none⟩) sl cp), some vy => match srcA look i.size vy, look b with
    | some (n, vs, rd), some (.row len cells d e' sp) =>
      bif Nat.ble (2 * (sl + n) * i.bytes) 281474976710656 && Nat.ble (sl + n) 9223372036854775807 then
        (bif Nat.blt cp BIG then
          (bif Nat.ble (sl + n) cp then
            (bif Nat.ble (off + sl * i.size + vs.length) len && vs.all oneV then some ⟨.slice (some ⟨b, off, none⟩) (sl + n) cp, [(b, setRowA len cells d e' sp (off + sl * i.size) vs)], [], 0, b :: rd⟩ else none)
          else match readN len cells d off (sl * i.size) with
            | some os => some (oneNew c (.slice (some ⟨c, 0, none⟩) (sl + n) BIG) (.row ((sl + n) * i.size) (T.ofList 0 (os ++ vs) .nil) none elem (some i.size)) (b :: rd))
            | none => none)
        else match sp with
          | some k' => bif Nat.beq k' i.size && Nat.beq cp BIG && Nat.beq off 0 && Nat.ble (sl * i.size) len && vs.all oneV && Nat.beq e' elem then
              (bif Nat.beq n 0 then some ⟨.slice (some ⟨b, 0, none⟩) sl BIG, [], [], 0, b :: rd⟩
              else some ⟨.slice (some ⟨c, 0, none⟩) (sl + n) BIG, [(c, .row ((sl + n) * i.size) (T.ofList (sl * i.size) vs cells) d e' (some i.size))], [b], 1, b :: rd⟩) else none
          | none => none)
      else none
    | _, _ => none
  | _, _, _ => none
def appendOp (P : Program) (ev : Operand → Option Value) (look : Heap) (c : Nat) (t u : TypeId) (x y : Operand) : Option Res :=
  match appendFast P ev look c t u x y with
  | some r => some r
  | none => appendSlow P ev look c t u x y
theorem conc_base {σ : Sig} {base : Option Addr} {l cp : Nat} {v : Value} (h : conc σ (.slice base l cp) = some v) (hcp : cp < BIG) :
    ∃ base', v = .slice base' l cp := by
  cases base with
  | none => simp only [conc] at h; cases h; exact ⟨none, rfl⟩
  | some a => simp only [conc] at h; split at h <;> cases h; rw [if_pos hcp]; exact ⟨_, rfl⟩
theorem appendFast_does {t u ty : TypeId} {x y : Operand} {r : Res} (h : appendFast P ev look c t u x y = some r) : Does P ev look c (fun ρ => asV (Builtin.append_ #[t, u] ty #[ρ x, ρ y])) r := by
  unfold appendFast at h
  split at h
  case h_2 => cases h
  rename_i elem i z ud base cp b n cy hkd hx hy
  obtain ⟨hu, hv, hud, hi, hz, hzs, hpos, hk'⟩ := appendKind_spec hkd
  split at h
  case h_2 => cases h
  rename_i len cells d e sp hl
  cases hb : (Nat.blt cp n && Nat.blt cp BIG && Nat.ble (n * i.size) len && Nat.ble (2 * n * i.bytes) 281474976710656 && Nat.ble n 9223372036854775807) with
  | false => rw [hb] at h; cases h
  | true =>
    rw [hb, cond_true] at h
    cases h
    simp only [Bool.and_eq_true] at hb
    obtain ⟨⟨⟨⟨b1, b2⟩, b3⟩, b4⟩, b5⟩ := hb
    have b1 := blt_lt b1
    have b2 := blt_lt b2
    have b3 := Nat.le_of_ble_eq_true b3
    have b4 := Nat.le_of_ble_eq_true b4
    have b5 := Nat.le_of_ble_eq_true b5
    refine oneNewD_does fun σ w E ρ hs hr hk => ?_
    obtain ⟨base', ex⟩ := conc_base (hk _ _ hx) b2
    obtain ⟨p, hp, ey⟩ := conc_slice (hk _ _ hy)
    have hE : E b = some (.row len cells (some d) e sp) := by rw [hr b (by simp), hl]
    obtain ⟨C, fr, g1, g2, g3, g4, g5⟩ := (hs.obj b _ hE).row hp
    have hnew : (Builtin.firstCells i.size n (ρ y)).run P w.drew = .ok (C.toList.take (n * i.size)).toArray w.drew := by
      rw [ey]
      refine run_firstCells_some (P := P) w.drew i.size n ⟨p.1, 0, none⟩ _ _ _ ?_ fun j v hj => ?_
      · rw [List.length_take, Array.length_toList]; omega
      · rw [add_at, cell_row (show w.drew.heap[p.1]? = _ from g1)]
        rw [List.getElem?_take] at hj
        split at hj
        · simpa using hj
        · cases hj
    have hold : (Builtin.firstCells i.size 0 (.slice base' 0 cp)).run P w.drew = .ok #[] w.drew := by
      cases base' with
      | none => simp [Builtin.firstCells]
      | some a => have := run_firstCells_some (P := P) w.drew i.size 0 a 0 cp [] (by simp) (by simp); simpa using this
    have hlen : (Builtin.lenOf (ρ y)).run P w = .ok n w := by rw [ey]; simp [Builtin.lenOf]
    have hrun := append_grow_run (ty := ty) hu hv hud hi hz hlen hnew hold (by omega) (by omega) (by simpa using b4)
    simp only [Nat.zero_add] at hrun
    refine ⟨_, grownCap w n cp elem, _, asV_run (by rw [ex]; exact hrun), fun σ' he => ?_, ?_⟩
    · have := grown_row (σ := σ') (e := elem) (cells := cells) (d := some d) (l' := C.toList.take (n * i.size)) (need := n) hzs rfl (by rw [List.length_take, Array.length_toList]; omega) (grownCap_ge w n cp elem) (grownCap_le_maxLen w n cp elem (by simp [maxLen]; omega)) (fun j v hv => by
        have hj := cellAt_lt hv
        have hv' : cellAt len cells (some d) j = some v := by
          unfold cellAt at hv ⊢
          have h1 : Nat.blt j (n * i.size) = true := by simpa using hj
          have h2 : Nat.blt j len = true := by simpa using Nat.lt_of_lt_of_le hj b3
          rw [h1] at hv; rw [h2]; exact hv
        obtain ⟨v', c1, c2⟩ := g5 j v hv'
        refine ⟨v', conc_ext he _ _ c1, ?_⟩
        rw [List.getElem?_take, if_pos hj]
        simpa using c2)
      simpa using this
    · simp only [conc, upd_same]
      simp [BIG]
theorem appendSlow_does {t u ty : TypeId} {x y : Operand} {r : Res} (h : appendSlow P ev look c t u x y = some r) : Does P ev look c (fun ρ => asV (Builtin.append_ #[t, u] ty #[ρ x, ρ y])) r := by
  unfold appendSlow at h
  split at h
  · rename_i elem i z ud vy hkd hx hy
    obtain ⟨hu, hv, hud, hi, hz, hzs, hpos, hk'⟩ := appendKind_spec hkd
    split at h
    case h_2 => cases h
    rename_i n vs rd hsrc
    cases hn : Nat.beq n 0 with
    | true =>
      rw [hn, cond_true] at h
      cases h
      have hn := Nat.eq_of_beq_eq_true hn
      subst hn
      refine Does.reads fun σ w E ρ hs hr hk => ?_
      obtain ⟨vs', c1, c2, c3, c4⟩ := srcA_ok (P := P) hsrc hs hr (hk _ _ hy)
      have ex := hk _ _ hx
      simp only [conc] at ex
      injection ex with ex
      exact ⟨_, asV_run (by rw [← ex]; exact append_nil_run hu hv hud hk' (c3 w) (c4 w rfl 0 (Nat.le_refl _))), by simp [conc]⟩
    | false =>
      rw [hn, cond_false] at h
      have hn : ¬ n = 0 := fun e => by subst e; cases hn
      cases hb : (Nat.ble (2 * n * i.bytes) 281474976710656 && Nat.ble n 9223372036854775807) with
      | false => rw [hb] at h; cases h
      | true =>
        rw [hb, cond_true] at h
        cases h
        simp only [Bool.and_eq_true] at hb
        have b1 := Nat.le_of_ble_eq_true hb.1
        have b2 := Nat.le_of_ble_eq_true hb.2
        refine oneNewD_does fun σ w E ρ hs hr hk => ?_
        obtain ⟨vs', c1, c2, c3, c4⟩ := srcA_ok (P := P) hsrc hs hr (hk _ _ hy)
        have ex := hk _ _ hx
        simp only [conc] at ex
        injection ex with ex
        have hnew := c4 w.drew rfl n (Nat.le_refl _)
        have hrun := append_grow_run (ty := ty) (sl := 0) (cp := 0) (base := none) (old := #[]) hu hv hud hi hz (c3 w) hnew (by simp [Builtin.firstCells]) (by omega) (by omega) (by simpa using b1)
        simp only [Nat.zero_add] at hrun
        refine ⟨_, grownCap w n 0 elem, _, asV_run (by rw [← ex]; exact hrun), fun σ' he => ?_, ?_⟩
        · have := grown_row (σ := σ') (e := elem) (cells := T.ofList 0 vs .nil) (d := none) (l' := vs'.take (n * i.size)) (need := n) hzs rfl (by rw [List.length_take]; omega) (grownCap_ge w n 0 elem) (grownCap_le_maxLen w n 0 elem (by simp [maxLen]; omega)) (fun j v hv => by
            have hvl : vs.length = n * i.size := by rw [← (concL_get _ _ c1).1, c2]
            rw [← hvl, cellAt_rowOf] at hv
            obtain ⟨v', d1, d2⟩ := (concL_get _ _ c1).2 j v hv
            refine ⟨v', conc_ext he _ _ d1, ?_⟩
            rw [List.take_of_length_le (by omega)]
            exact d2)
          simpa using this
        · simp only [conc, upd_same]
          simp [BIG]
  · rename_i elem i z ud b off sl cp vy hkd hx hy
    obtain ⟨hu, hv, hud, hi, hz, hzs, hpos, hk'⟩ := appendKind_spec hkd
    split at h
    case h_2 => cases h
    rename_i n vs rd len cells d e sp hsrc hl
    cases hb : (Nat.ble (2 * (sl + n) * i.bytes) 281474976710656 && Nat.ble (sl + n) 9223372036854775807) with
    | false => rw [hb] at h; cases h
    | true =>
      rw [hb, cond_true] at h
      simp only [Bool.and_eq_true] at hb
      have b1 := Nat.le_of_ble_eq_true hb.1
      have b2 := Nat.le_of_ble_eq_true hb.2
      -- what a growing append leaves, with some row of the old cells
      have grow : ∀ (σ : Sig) (w : World) (E : Heap) (ρ : Operand → Value) (os os' : List Value) (cp' : Nat) (p : Nat × Nat), Sat σ E w → (∀ m ∈ rd, E m = look m) → Knows σ ev ρ → ρ x = .slice (some ⟨p.1, off, none⟩) sl cp' → cp' < sl + n →
          (∀ w0, w0.heap = w.heap → (Builtin.firstCells i.size sl (.slice (some ⟨p.1, off, none⟩) sl cp')).run P w0 = .ok os'.toArray w0) → os'.length = sl * i.size →
          ∃ vs', concL σ vs = some vs' ∧ vs'.length = n * i.size ∧ (asV (Builtin.append_ #[t, u] ty #[ρ x, ρ y])).run P w = .ok (.value (.slice (some ⟨w.heap.size, 0, none⟩) (sl + n) (grownCap w (sl + n) cp' elem))) (w.drew.alloc (.cells (os'.toArray ++ vs'.toArray ++ Builtin.zeroCells z.cells (grownCap w (sl + n) cp' elem - (sl + n))) elem)) := by
        intro σ w E ρ os os' cp' p hs hr hk ex hlt hold hol
        obtain ⟨vs', c1, c2, c3, c4⟩ := srcA_ok (P := P) hsrc hs hr (hk _ _ hy)
        have hnew := c4 w.drew rfl n (Nat.le_refl _)
        rw [List.take_of_length_le (by omega)] at hnew
        refine ⟨vs', c1, c2, asV_run ?_⟩
        rw [ex]
        exact append_grow_run (ty := ty) hu hv hud hi hz (c3 w) hnew (hold w.drew rfl) hlt b2 b1
      cases hcp : Nat.blt cp BIG with
      | true =>
        rw [hcp, cond_true] at h
        have hcp := blt_lt hcp
        cases hfit : Nat.ble (sl + n) cp with
        | true =>
          rw [hfit, cond_true] at h
          have hfit := Nat.le_of_ble_eq_true hfit
          cases hw : (Nat.ble (off + sl * i.size + vs.length) len && vs.all oneV) with
          | false => rw [hw] at h; cases h
          | true =>
            rw [hw, cond_true] at h
            cases h
            simp only [Bool.and_eq_true] at hw
            have w1 := Nat.le_of_ble_eq_true hw.1
            intro σ w E ρ hs hf hr hk
            obtain ⟨vs', c1, c2, c3, c4⟩ := srcA_ok (P := P) hsrc hs (fun m hm => hr m (by simp [hm])) (hk _ _ hy)
            obtain ⟨p, hp, ex⟩ := conc_slice (hk _ _ hx)
            rw [if_pos hcp] at ex
            have hE : E b = some (.row len cells d e sp) := by rw [hr b (by simp), hl]
            obtain ⟨w', s1, s2⟩ := row_write c P hs hE hp c1 hw.2 w1
            have hnew := c4 w rfl n (Nat.le_refl _)
            rw [List.take_of_length_le (by omega)] at hnew
            refine ⟨_, .slice (some ⟨p.1, off, none⟩) (sl + n) cp, σ, w', asV_run (by rw [ex]; exact append_room_run hu hv hud hk' (c3 w) hnew hfit (by simpa using s1)), .inl rfl, ?_, s2.congr (fun m hm => by subst hm; simp [Res.W]) (fun m => rfl) (fun m hm => ?_) (fun _ _ _ => trivial)⟩
            · simp only [conc, hp, if_pos hcp]
            · simp [Res.W] at hm
              subst hm
              exact .inl ⟨_, hE⟩
        | false =>
          rw [hfit, cond_false] at h
          have hfit : ¬ sl + n ≤ cp := fun hh => by rw [Nat.ble_eq_true_of_le hh] at hfit; cases hfit
          split at h
          case h_2 => cases h
          rename_i os hos
          cases h
          refine oneNewD_does fun σ w E ρ hs hr hk => ?_
          obtain ⟨p, hp, ex⟩ := conc_slice (hk _ _ hx)
          rw [if_pos hcp] at ex
          have hE : E b = some (.row len cells d e sp) := by rw [hr b (by simp), hl]
          obtain ⟨C, fr, g1, g2, g3, g4, g5⟩ := (hs.obj b _ hE).row hp
          obtain ⟨os', o1, o2, o3⟩ := conc_list g5 _ off os hos
          obtain ⟨vs', c1, c2, hrun⟩ := grow σ w E ρ os os' cp p hs (fun m hm => hr m (by simp [hm])) hk ex (by omega) (fun w0 hw0 => run_firstCells_some (P := P) w0 i.size sl ⟨p.1, off, none⟩ _ _ _ o2 fun j u hj => by
            rw [add_at, cell_row (by rw [hw0]; exact g1)]; exact o3 j u hj) o2
          refine ⟨_, grownCap w (sl + n) cp elem, _, hrun, fun σ' he => ?_, ?_⟩
          · have hcl := concL_append o1 c1
            have hlen : (os ++ vs).length = (sl + n) * i.size := by rw [← (concL_get _ _ hcl).1, List.length_append, o2, c2, Nat.add_mul]
            have := grown_row (σ := σ') (e := elem) (cells := T.ofList 0 (os ++ vs) .nil) (d := none) (l' := os' ++ vs') (need := sl + n) hzs rfl (by rw [List.length_append, o2, c2, Nat.add_mul]) (grownCap_ge w (sl + n) cp elem) (grownCap_le_maxLen w (sl + n) cp elem (by simp [maxLen]; omega)) (fun j v hv => by
              rw [← hlen, cellAt_rowOf] at hv
              obtain ⟨v', d1, d2⟩ := (concL_get _ _ hcl).2 j v hv
              exact ⟨v', conc_ext he _ _ d1, d2⟩)
            simpa using this
          · simp only [conc, upd_same]
            simp [BIG]
      | false =>
        rw [hcp, cond_false] at h
        split at h
        case h_2 => cases h
        rename_i k'
        cases hw : (Nat.beq k' i.size && Nat.beq cp BIG && Nat.beq off 0 && Nat.ble (sl * i.size) len && vs.all oneV && Nat.beq e elem) with
        | false => rw [hw] at h; cases h
        | true =>
          rw [hw, cond_true] at h
          simp only [Bool.and_eq_true] at hw
          obtain ⟨⟨⟨⟨⟨w1, w2⟩, w3⟩, w4⟩, w5⟩, w6⟩ := hw
          have w1 := Nat.eq_of_beq_eq_true w1
          have w2 := Nat.eq_of_beq_eq_true w2
          have w3 := Nat.eq_of_beq_eq_true w3
          have w4 := Nat.le_of_ble_eq_true w4
          have w6 := Nat.eq_of_beq_eq_true w6
          subst w1; subst w2; subst w3; subst w6
          have exk : ∀ (σ : Sig) (ρ : Operand → Value), Knows σ ev ρ → ∃ p, σ b = some p ∧ ρ x = .slice (some ⟨p.1, 0, none⟩) sl p.2 := fun σ ρ hk => by
            obtain ⟨p, hp, ex⟩ := conc_slice (hk _ _ hx)
            rw [if_neg (Nat.lt_irrefl _), Nat.sub_self, Nat.sub_zero] at ex
            exact ⟨p, hp, ex⟩
          cases hn : Nat.beq n 0 with
          | true =>
            rw [hn, cond_true] at h
            cases h
            have hn := Nat.eq_of_beq_eq_true hn
            subst hn
            refine Does.reads fun σ w E ρ hs hr hk => ?_
            obtain ⟨p, hp, ex⟩ := exk σ ρ hk
            have hE : E b = some (.row len cells d e (some i.size)) := by rw [hr b (by simp), hl]
            obtain ⟨C, fr, g1, g2, g3, g4, g5⟩ := (hs.obj b _ hE).row hp
            obtain ⟨vs', c1, c2, c3, c4⟩ := srcA_ok (P := P) hsrc hs (fun m hm => hr m (by simp [hm])) (hk _ _ hy)
            have hcap : sl ≤ p.2 := by
              have h1 := g4.1
              have h2 : sl * i.size ≤ p.2 * i.size := by omega
              exact Nat.le_of_mul_le_mul_right h2 hpos
            have hnew := c4 w rfl 0 (Nat.le_refl _)
            have hvs' : vs' = [] := List.eq_nil_of_length_eq_zero (by omega)
            subst hvs'
            refine ⟨_, asV_run (by rw [ex]; exact append_room_run (w' := w) hu hv hud hk' (c3 w) hnew (by omega) (by simp [storeCells])), ?_⟩
            simp only [conc, hp]
            simp
          | false =>
            rw [hn, cond_false] at h
            cases h
            have hn : ¬ n = 0 := fun e => by subst e; cases hn
            intro σ w E ρ hs hf hr hk
            obtain ⟨p, hp, ex⟩ := exk σ ρ hk
            have hE : E b = some (.row len cells d e (some i.size)) := by rw [hr b (by simp), hl]
            obtain ⟨C, fr, g1, g2, g3, g4, g5⟩ := (hs.obj b _ hE).row hp
            obtain ⟨vs', c1, c2, c3, c4⟩ := srcA_ok (P := P) hsrc hs (fun m hm => hr m (by simp [hm])) (hk _ _ hy)
            have hvl : vs.length = n * i.size := by rw [← (concL_get _ _ c1).1, c2]
            have hvs1 := concL_one c1 w5
            by_cases hroom : sl + n ≤ p.2
            · have hin : sl * i.size + n * i.size ≤ C.size := by
                rw [g4.1, ← Nat.add_mul]; exact Nat.mul_le_mul_right _ hroom
              obtain ⟨w', C', s1, s2, s3, s4, s5, s6, s7, s8, s9⟩ := store_cells (P := P) p.1 (sl * i.size) vs' 0 w C e fr g1 (by omega) g3 hvs1
              have hnew := c4 w rfl n (Nat.le_refl _)
              rw [List.take_of_length_le (by omega)] at hnew
              refine ⟨_, .slice (some ⟨p.1, 0, none⟩) (sl + n) p.2, _, w', asV_run (by rw [ex]; exact append_room_run hu hv hud hk' (c3 w) hnew hroom (by simpa using s1)), .inl rfl, ?_, (Run.rename (c := c) hs hf p _ (.row ((sl + n) * i.size) (T.ofList (sl * i.size) vs cells) d e (some i.size)) hE hp ⟨s7, s8, s9⟩ s6 s5 fun σ' he => ?_).congr (fun m hm => by subst hm; simp [Res.W]) (fun m => rfl) (fun m hm => ?_) (fun _ _ _ => trivial)⟩
              · simp only [conc, upd_same]
                simp [BIG]
              · refine ⟨C', fr, s2, by rw [s3, Nat.add_mul]; exact hin, by rw [s3]; exact g3, by rw [s3]; exact g4, fun j v hv => ?_⟩
                have hj := cellAt_lt hv
                unfold cellAt at hv
                have hjb : Nat.blt j ((sl + n) * i.size) = true := by simpa using hj
                rw [hjb, cond_true, T.get_ofList] at hv
                have s4 := s4 j
                simp only [Nat.add_zero] at s4
                rw [s4]
                rw [Nat.add_mul] at hj
                by_cases hjl : sl * i.size ≤ j
                · rw [if_pos ⟨hjl, by omega⟩] at hv
                  rw [if_pos ⟨hjl, by omega⟩]
                  rw [List.getElem?_eq_getElem (by omega)] at hv
                  simp only at hv
                  injection hv with hv
                  subst hv
                  obtain ⟨v', d1, d2⟩ := (concL_get _ _ c1).2 (j - sl * i.size) _ (List.getElem?_eq_getElem (by omega))
                  exact ⟨v', conc_ext he _ _ d1, d2⟩
                · rw [if_neg (by omega)] at hv
                  rw [if_neg (by omega)]
                  obtain ⟨v', d1, d2⟩ := g5 j v (by unfold cellAt; have : Nat.blt j len = true := by simpa using (show j < len by omega)
                                                    rw [this, cond_true]; exact hv)
                  exact ⟨v', conc_ext he _ _ d1, d2⟩
              · simp [Res.W] at hm
                rcases hm with hm | hm
                · subst hm; exact .inl ⟨_, hE⟩
                · subst hm; exact .inr ⟨Nat.le_refl _, by simp⟩
            · obtain ⟨vs2, e1, e2, hrun⟩ := grow σ w E ρ [] (C.toList.take (sl * i.size)) p.2 p hs (fun m hm => hr m (by simp [hm])) hk ex (by omega) (fun w0 hw0 => run_firstCells_some (P := P) w0 i.size sl ⟨p.1, 0, none⟩ _ _ _ (by rw [List.length_take, Array.length_toList]; omega) fun j u hj => by
                rw [add_at, cell_row (by rw [hw0]; exact g1)]
                rw [List.getElem?_take] at hj
                split at hj
                · simpa using hj
                · cases hj) (by rw [List.length_take, Array.length_toList]; omega)
              rw [c1] at e1
              cases e1
              have hfb : Fresh σ c (c + 1) := hf
              have hkill := Run.kill c hs b ⟨_, hE⟩
              have hcE : ∀ σ', Ext σ σ' → ObjIs σ' (grownCap w (sl + n) p.2 e) (.row ((sl + n) * i.size) (T.ofList (sl * i.size) vs cells) d e (some i.size)) (some (.cells ((C.toList.take (sl * i.size)).toArray ++ vs'.toArray ++ Builtin.zeroCells z.cells (grownCap w (sl + n) p.2 e - (sl + n))) e)) := fun σ' he => by
                have := grown_row (σ := σ') (e := e) (cells := T.ofList (sl * i.size) vs cells) (d := d) (l' := C.toList.take (sl * i.size) ++ vs') (need := sl + n) hzs rfl (by rw [List.length_append, List.length_take, Array.length_toList, c2, Nat.add_mul]; omega) (grownCap_ge w (sl + n) p.2 e) (grownCap_le_maxLen w (sl + n) p.2 e (by simp [maxLen]; omega)) (fun j v hv => by
                  have hj := cellAt_lt hv
                  unfold cellAt at hv
                  have hjb : Nat.blt j ((sl + n) * i.size) = true := by simpa using hj
                  rw [hjb, cond_true, T.get_ofList] at hv
                  rw [Nat.add_mul] at hj
                  have htl : (C.toList.take (sl * i.size)).length = sl * i.size := by rw [List.length_take, Array.length_toList]; omega
                  by_cases hjl : sl * i.size ≤ j
                  · rw [if_pos ⟨hjl, by omega⟩] at hv
                    rw [List.getElem?_eq_getElem (by omega)] at hv
                    simp only at hv
                    injection hv with hv
                    subst hv
                    obtain ⟨v', d1, d2⟩ := (concL_get _ _ c1).2 (j - sl * i.size) _ (List.getElem?_eq_getElem (by omega))
                    refine ⟨v', conc_ext he _ _ d1, ?_⟩
                    rw [List.getElem?_append_right (by omega), htl]
                    exact d2
                  · rw [if_neg (by omega)] at hv
                    obtain ⟨v', d1, d2⟩ := g5 j v (by unfold cellAt; have : Nat.blt j len = true := by simpa using (show j < len by omega)
                                                      rw [this, cond_true]; exact hv)
                    refine ⟨v', conc_ext he _ _ d1, ?_⟩
                    rw [List.getElem?_append_left (by omega), List.getElem?_take, if_pos (by omega)]
                    simpa using d2)
                simpa using this
              have hmake := Run.make (σ := σ) (E := upd E b none) (c := c) hkill.sat.drew hf _ _ (grownCap w (sl + n) p.2 e) hcE
              have hseq := Run.seq hf (hkill.seq (fun n hn => by have := hn.1; have := hn.2; omega) (Run.asked hkill.sat)) hmake
              refine ⟨_, _, _, _, hrun, .inl rfl, ?_, hseq.congr (fun m hm => ?_) (fun m => rfl) (fun m hm => ?_) (fun _ _ _ => trivial)⟩
              · simp only [conc, upd_same]
                simp [BIG]
              · rcases hm with (hm | hm) | hm
                · subst hm; simp [Res.W]
                · exact hm.elim
                · exact hm.elim
              · simp [Res.W] at hm
                rcases hm with hm | hm
                · subst hm; exact .inl ⟨_, hE⟩
                · subst hm; exact .inr ⟨Nat.le_refl _, by simp⟩
  · cases h
theorem appendOp_does {t u ty : TypeId} {x y : Operand} {r : Res} (h : appendOp P ev look c t u x y = some r) : Does P ev look c (fun ρ => asV (Builtin.append_ #[t, u] ty #[ρ x, ρ y])) r := by
  unfold appendOp at h
  split at h
  · rename_i r' hr
    cases h
    exact appendFast_does hr
  · exact appendSlow_does h
end
end
end Go.Proofs.YtpcejpcbkjnlkaaGreatDoor.AE

namespace Go.Proofs.YtpcejpcbkjnlkaaGreatDoor.AE
noncomputable section
open Go.RowKit

section
variable {P : Program} {ev : Operand → Option Value} {look : Heap} {c : Nat}
theorem runP_bind {α β : Type} (f : α → Sem β) (b : β) : ∀ (s : Sem α), runP P (s >>= f) = some b → ∃ a, runP P s = some a ∧ runP P (f a) = some b
  | .pure a, h => ⟨a, rfl, h⟩
  | .program k, h => runP_bind f b (k P) h
  | .mark _ k, h => runP_bind f b k h
  | .load .., h | .store .., h | .new .., h | .shape .., h | .freeze .., h | .frozen .., h | .getObj .., h | .setObj .., h | .choose .., h | .sys .., h | .halt _, h => by simp [Bind.bind, Sem.bind, runP] at h

/-! ### keys -/
def blank (e : AEntry) : MapEntry := ⟨e.key, .nilIface, e.born⟩
/-- the same index, and the value that stands there -/
def Hits (l : List MapEntry) (i : Nat) : Option (Nat × Value) → Option (Nat × Value) → Prop
  | none, none => True
  | some (j, _), some (k, v) => j = k ∧ i ≤ j ∧ ∃ e, l[j - i]? = some e ∧ e.val = v
  | _, _ => False
theorem Hits.cons {l : List MapEntry} {e : MapEntry} {i : Nat} {a b : Option (Nat × Value)} (h : Hits l (i + 1) a b) : Hits (e :: l) i a b := by
  match a, b, h with
  | none, none, _ => exact trivial
  | some (j, _), some (k, v), ⟨h1, h2, e', h3, h4⟩ =>
    refine ⟨h1, by omega, e', ?_, h4⟩
    have : j - i = (j - (i + 1)) + 1 := by omega
    rw [this]; simpa using h3
theorem findNow_hits (kind : TypeDesc) (k : Value) : ∀ (l0 l : List MapEntry) (i : Nat), l0.map (·.key) = l.map (·.key) →
    match Instr.findNow kind k l0 i, Instr.findNow kind k l i with
    | none, none => True
    | some a, some b => Hits l i a b
    | _, _ => False
  | [], [], i, _ => by simp [Instr.findNow, Hits]
  | [], _ :: _, _, h => by simp at h
  | _ :: _, [], _, h => by simp at h
  | e0 :: l0, e :: l, i, h => by
    simp only [List.map_cons, List.cons.injEq] at h
    simp only [Instr.findNow, h.1]
    cases hs : Instr.sameNow kind k e.key with
    | none => trivial
    | some b =>
      cases b with
      | true => exact ⟨rfl, Nat.le_refl _, e, by simp, rfl⟩
      | false =>
        have ih := findNow_hits kind k l0 l (i + 1) h.2
        revert ih
        cases Instr.findNow kind k l0 (i + 1) <;> cases Instr.findNow kind k l (i + 1) <;> simp only <;> intro ih
        · exact ih
        · exact ih
        · exact ih
        · exact ih.cons
theorem findAsking_hits (w : World) (kt : TypeId) (k : Value) : ∀ (l0 l : List MapEntry) (i : Nat) (a : Option (Nat × Value)), l0.map (·.key) = l.map (·.key) → runP P (Instr.findAsking kt k l0 i) = some a →
    ∃ b, (Instr.findAsking kt k l i).run P w = .ok b w ∧ Hits l i a b
  | [], [], i, a, _, h => by simp only [Instr.findAsking, Pure.pure, runP] at h; cases h; exact ⟨none, rfl, trivial⟩
  | [], _ :: _, _, _, h, _ => by simp at h
  | _ :: _, [], _, _, h, _ => by simp at h
  | e0 :: l0, e :: l, i, a, h, hr => by
    simp only [List.map_cons, List.cons.injEq] at h
    simp only [Instr.findAsking] at hr ⊢
    obtain ⟨q, h1, h2⟩ := runP_bind _ _ _ hr
    rw [h.1] at h1
    have h3 := runP_run w _ _ h1
    simp only [Sem.run_bind, h3, Result.andThen_ok]
    cases q with
    | true =>
      simp only [if_true, Pure.pure, runP] at h2 ⊢
      cases h2
      exact ⟨_, rfl, rfl, Nat.le_refl _, e, by simp, rfl⟩
    | false =>
      simp only [Bool.false_eq_true, if_false] at h2 ⊢
      obtain ⟨b, b1, b2⟩ := findAsking_hits w kt k l0 l (i + 1) a h.2 h2
      exact ⟨b, b1, b2.cons⟩
theorem findKey_hits (w : World) (kt : TypeId) (k : Value) (l0 l : List MapEntry) (a : Option (Nat × Value)) (h : l0.map (·.key) = l.map (·.key)) (hr : runP P (Instr.findKey kt k l0) = some a) :
    ∃ b, (Instr.findKey kt k l).run P w = .ok b w ∧ Hits l 0 a b := by
  simp only [Instr.findKey] at hr ⊢
  obtain ⟨u, h1, h2⟩ := runP_bind _ _ _ hr
  have h3 := runP_run w _ _ h1
  simp only [Sem.run_bind, h3, Result.andThen_ok]
  have hn := findNow_hits u k l0 l 0 h
  cases hx : Instr.findNow u k l0 0 with
  | none =>
    cases hy : Instr.findNow u k l 0 with
    | none =>
      rw [hx] at h2
      exact findAsking_hits w kt k l0 l 0 a h h2
    | some y => rw [hx, hy] at hn; exact hn.elim
  | some x =>
    cases hy : Instr.findNow u k l 0 with
    | none => rw [hx, hy] at hn; exact hn.elim
    | some y =>
      rw [hx] at h2
      simp only [Pure.pure, runP] at h2
      cases h2
      rw [hx, hy] at hn
      exact ⟨y, rfl, hn⟩
def findA (P : Program) (kt : TypeId) (k : Value) (es : List AEntry) : Option (Option Nat) :=
  bif es.all (fun e => plainV e.key) then
    (match runP P (Instr.findKey kt k (es.map blank)) with
    | some (some (i, _)) => some (some i)
    | some none => some none
    | none => none)
  else none
theorem Ents.keys {σ : Sig} {es : List AEntry} {l : List MapEntry} (h : Ents σ es l) (hp : es.all (fun e => plainV e.key) = true) : (es.map blank).map (·.key) = l.map (·.key) := by
  induction h with
  | nil => rfl
  | cons hk _ _ ih =>
    simp only [List.all_cons, Bool.and_eq_true] at hp
    rw [plain_conc σ _ hp.1] at hk
    cases hk
    simp only [List.map_cons, blank, ih hp.2]
theorem Ents.get {σ : Sig} {es : List AEntry} {l : List MapEntry} (h : Ents σ es l) : ∀ (i : Nat) (e : AEntry), es[i]? = some e → ∃ k v, l[i]? = some ⟨k, v, e.born⟩ ∧ conc σ e.key = some k ∧ conc σ e.val = some v := by
  induction h with
  | nil => intro i e h; simp at h
  | cons hk hv _ ih =>
    intro i e he
    cases i with
    | zero => simp at he; subst he; exact ⟨_, _, by simp, hk, hv⟩
    | succ i => simp at he; simpa using ih i e he
theorem findA_ok {kt : TypeId} {k : Value} {es : List AEntry} {r : Option Nat} {σ : Sig} {l : List MapEntry} (h : findA P kt k es = some r) (he : Ents σ es l) (w : World) :
    ∃ b, (Instr.findKey kt k l).run P w = .ok b w ∧ (match r, b with
      | none, none => True
      | some i, some (j, v) => i = j ∧ ∃ e, l[i]? = some e ∧ e.val = v
      | _, _ => False) := by
  unfold findA at h
  cases hp : es.all (fun e => plainV e.key) with
  | false => rw [hp] at h; cases h
  | true =>
    rw [hp, cond_true] at h
    split at h
    · rename_i i v hr
      cases h
      obtain ⟨b, b1, b2⟩ := findKey_hits w kt k _ l _ (he.keys hp) hr
      refine ⟨b, b1, ?_⟩
      match b, b2 with
      | some (j, u), ⟨h1, _, e, h3, h4⟩ => exact ⟨h1, e, by simpa using h3, h4⟩
    · rename_i hr
      cases h
      obtain ⟨b, b1, b2⟩ := findKey_hits w kt k _ l _ (he.keys hp) hr
      refine ⟨b, b1, ?_⟩
      match b, b2 with
      | none, _ => exact trivial
    · cases h

/-! ### look up -/
def okV (ok : Bool) (v : Value) (q : Bool) : Value := bif ok then .tuple #[v, .bool q] else v
theorem conc_okV {σ : Sig} {v v' : Value} (h : conc σ v = some v') (ok q : Bool) : conc σ (okV ok v q) = some (if ok then .tuple #[v', .bool q] else v') := by
  cases ok <;> simp [okV, conc, concA, concL, h]
def lookupOp (P : Program) (ev : Operand → Option Value) (look : Heap) (t : TypeId) (x i : Operand) (ok : Bool) : Option Res :=
  match P.underlying t, ev i, ev x with
  | some (.map kt et), some k, some (.map none) => bif plainV k then
      (match runP P (Instr.checkKey true 10000 kt k), zeroOf P et, P.underlying kt with
      | some (), some z, some _ => some (pureRes (okV ok z false))
      | _, _, _ => none) else none
  | some (.map kt et), some k, some (.map (some r)) => match look r with
    | some (.map es _) => bif plainV k then
        (match runP P (Instr.checkKey es.isEmpty 10000 kt k), findA P kt k es with
        | some (), some (some j) => match es[j]? with
          | some e => some ⟨okV ok e.val true, [], [], 0, [r]⟩
          | none => none
        | some (), some none => match zeroOf P et with
          | some z => some ⟨okV ok z false, [], [], 0, [r]⟩
          | none => none
        | _, _ => none) else none
    | _ => none
  | _, _, _ => none
theorem findKey_nil (kt : TypeId) (k : Value) (u : TypeDesc) (hu : P.underlying kt = some u) (w : World) : (Instr.findKey kt k []).run P w = .ok none w := by
  simp [Instr.findKey, run_underlying hu, Instr.findNow]
theorem lookupOp_does {t : TypeId} {x i : Operand} {ok : Bool} {r : Res} (h : lookupOp P ev look t x i ok = some r) : Does P ev look c (fun ρ => asV (Instr.lookup t (ρ x) (ρ i) ok)) r := by
  unfold lookupOp at h
  split at h
  · rename_i kt et k hu hi hx
    cases hp : plainV k with
    | false => rw [hp] at h; cases h
    | true =>
      rw [hp, cond_true] at h
      split at h
      case h_2 => cases h
      rename_i z _ hck hz hku
      cases h
      obtain ⟨inf, _, _, hpz⟩ := zeroOf_spec hz
      refine Does.pure fun σ w ρ hk => ⟨_, asV_run ?_, conc_okV (plain_conc σ z hpz) ok false⟩
      have e1 := hk _ _ hi
      rw [plain_conc σ _ hp] at e1
      injection e1 with e1
      have e2 := hk _ _ hx
      simp only [conc] at e2
      injection e2 with e2
      have hfk : (Instr.findKey kt k []).run P w = .ok none w := findKey_nil kt k _ hku w
      rw [← e1, ← e2]
      simp [Instr.lookup, run_underlying hu, runP_run w _ _ hck, hfk, zero_run hz]
  · rename_i kt et k r' hu hi hx
    split at h
    case h_2 => cases h
    rename_i es clock hl
    cases hp : plainV k with
    | false => rw [hp] at h; cases h
    | true =>
      rw [hp, cond_true] at h
      have common : ∀ (σ : Sig) (w : World) (E : Heap) (ρ : Operand → Value), Sat σ E w → (∀ n ∈ [r'], E n = look n) → Knows σ ev ρ →
          ∃ p l, Ents σ es l ∧ w.heap[p]? = some (.map l.toArray clock) ∧ ρ i = k ∧ ρ x = .map (some p) := fun σ w E ρ hs hr hk => by
        have e1 := hk _ _ hi
        rw [plain_conc σ _ hp] at e1
        injection e1 with e1
        obtain ⟨p, hp', e2⟩ := conc_map (hk _ _ hx)
        have hE : E r' = some (.map es clock) := by rw [hr r' (by simp), hl]
        obtain ⟨l, h1, h2⟩ := (hs.obj r' _ hE).map hp'
        exact ⟨p.1, l, h1, h2, e1.symm, e2⟩
      have hemp : ∀ (σ : Sig) (l : List MapEntry), Ents σ es l → l.isEmpty = es.isEmpty := fun σ l he => by
        cases he <;> rfl
      split at h
      · rename_i j hck hfa
        split at h
        case h_2 => cases h
        rename_i e hej
        cases h
        refine Does.reads fun σ w E ρ hs hr hk => ?_
        obtain ⟨p, l, h1, h2, e1, e2⟩ := common σ w E ρ hs hr hk
        obtain ⟨kk, v, g1, g2, g3⟩ := h1.get j e hej
        obtain ⟨b, b1, b2⟩ := findA_ok hfa h1 w
        match b, b2 with
        | some (j', v'), ⟨q1, e', q2, q3⟩ =>
          rw [g1] at q2
          cases q2
          refine ⟨_, asV_run ?_, conc_okV g3 ok true⟩
          simp only at q3
          subst q3
          rw [e1, e2]
          simp [Instr.lookup, run_underlying hu, run_getMap h2, hemp σ l h1, runP_run w _ _ hck, b1]
      · rename_i hck hfa
        split at h
        case h_2 => cases h
        rename_i z hz
        cases h
        obtain ⟨inf, _, _, hpz⟩ := zeroOf_spec hz
        refine Does.reads fun σ w E ρ hs hr hk => ?_
        obtain ⟨p, l, h1, h2, e1, e2⟩ := common σ w E ρ hs hr hk
        obtain ⟨b, b1, b2⟩ := findA_ok hfa h1 w
        match b, b2 with
        | none, _ =>
          refine ⟨_, asV_run ?_, conc_okV (plain_conc σ z hpz) ok false⟩
          rw [e1, e2]
          simp [Instr.lookup, run_underlying hu, run_getMap h2, hemp σ l h1, runP_run w _ _ hck, b1, zero_run hz]
      · cases h
  · cases h
end
end
end Go.Proofs.YtpcejpcbkjnlkaaGreatDoor.AE

namespace Go.Proofs.YtpcejpcbkjnlkaaGreatDoor.AE
noncomputable section
open Go.RowKit

section
variable {P : Program} {ev : Operand → Option Value} {look : Heap} {c : Nat}
theorem run_setOther {w : World} {b : Nat} {o o' : Obj} (h : w.heap[b]? = some o) (hn : ∀ c t f, o ≠ .cells c t f) : (setObj b o').run P w = .ok () { w with heap := w.heap.setIfInBounds b o' } := by
  cases o <;> first | (simp only [setObj, Sem.run, h]; done) | exact absurd rfl (hn _ _ _)
/-- a block that is no row is turned into another object -/
theorem obj_write {σ : Sig} {w : World} {E : Heap} {n : Nat} (c : Nat) (hs : Sat σ E w) (o o' : AObj) (ob' : Obj) (hE : E n = some o) {p : Nat × Nat} (hp : σ n = some p) (ho : ObjIs σ p.2 o' (some ob')) :
    Run σ w E c (· = n) c (upd E n (some o')) σ { w with heap := w.heap.setIfInBounds p.1 ob' } := by
  obtain ⟨q, hq, hlt⟩ := (hs.obj n _ hE).lt
  rw [hp] at hq
  cases hq
  refine Run.turn hs n p.1 p.2 _ o' hE hp _ ⟨rfl, rfl, rfl⟩ (by simp) (fun k hk => ?_) ?_
  · simp [Array.getElem?_setIfInBounds_ne (Ne.symm hk)]
  · simpa [hlt] using ho
theorem Ents.append {σ : Sig} {es : List AEntry} {l : List MapEntry} (h : Ents σ es l) {e : AEntry} {k v : Value} (hk : conc σ e.key = some k) (hv : conc σ e.val = some v) : Ents σ (es ++ [e]) (l ++ [⟨k, v, e.born⟩]) := by
  induction h with
  | nil => exact .cons hk hv .nil
  | cons h1 h2 _ ih => exact .cons h1 h2 ih
theorem Ents.modify {σ : Sig} {es : List AEntry} {l : List MapEntry} (h : Ents σ es l) {k v k' v' : Value} (hk : conc σ k = some k') (hv : conc σ v = some v') : ∀ i, Ents σ (es.modify i fun e => { e with key := k, val := v }) (l.modify i fun e => { e with key := k', val := v' }) := by
  induction h with
  | nil => intro i; simp; exact .nil
  | cons h1 h2 h3 ih =>
    intro i
    cases i with
    | zero => exact .cons (e := { ‹AEntry› with key := k, val := v }) hk hv h3
    | succ i => exact .cons h1 h2 (ih i)
theorem Ents.erase {σ : Sig} {es : List AEntry} {l : List MapEntry} (h : Ents σ es l) : ∀ i, Ents σ (es.eraseIdx i) (l.eraseIdx i) := by
  induction h with
  | nil => intro i; simp; exact .nil
  | cons h1 h2 h3 ih =>
    intro i
    cases i with
    | zero => exact h3
    | succ i => exact .cons h1 h2 (ih i)
def stays (P : Program) (old new : Value) : Option Value := match runP P (Instr.keyThatStays old new) with
  | some k => bif plainV k then some k else none
  | none => none
theorem conc_map' {σ : Sig} {r : Nat} {v : Value} (h : conc σ (.map (some r)) = some v) : ∃ p, σ r = some p ∧ v = .map (some p.1) := conc_map h
def mapUpdateOp (P : Program) (ev : Operand → Option Value) (look : Heap) (t : TypeId) (m i x : Operand) : Option Res :=
  match P.underlying t, ev i, ev m, ev x with
  | some (.map kt _), some k, some (.map (some r)), some v => match look r with
    | some (.map es clock) => bif plainV k then
        (match runP P (Instr.checkKey false 10000 kt k), findA P kt k es with
        | some (), some (some j) => match es[j]? with
          | some e => match stays P e.key k with
            | some k' => some ⟨undef, [(r, .map (es.modify j fun e => { e with key := k', val := v }) clock)], [], 0, [r]⟩
            | none => none
          | none => none
        | some (), some none => some ⟨undef, [(r, .map (es ++ [⟨k, v, clock⟩]) (clock + 1))], [], 0, [r]⟩
        | _, _ => none) else none
    | _ => none
  | _, _, _, _ => none
theorem mapUpdateOp_does {t : TypeId} {m i x : Operand} {r : Res} (h : mapUpdateOp P ev look t m i x = some r) : Does P ev look c (fun ρ => asU (Instr.mapUpdate t (ρ m) (ρ i) (ρ x))) r := by
  unfold mapUpdateOp at h
  split at h
  case h_2 => cases h
  rename_i kt et k r' v hu hi hm hx
  split at h
  case h_2 => cases h
  rename_i es clock hl
  cases hp : plainV k with
  | false => rw [hp] at h; cases h
  | true =>
    rw [hp, cond_true] at h
    have common : ∀ (σ : Sig) (w : World) (E : Heap) (ρ : Operand → Value), Sat σ E w → (∀ n ∈ [r'], E n = look n) → Knows σ ev ρ →
        ∃ p l, E r' = some (.map es clock) ∧ σ r' = some p ∧ Ents σ es l ∧ w.heap[p.1]? = some (.map l.toArray clock) ∧ ρ i = k ∧ ρ m = .map (some p.1) := fun σ w E ρ hs hr hk => by
      have e1 := hk _ _ hi
      rw [plain_conc σ _ hp] at e1
      injection e1 with e1
      obtain ⟨p, hp', e2⟩ := conc_map (hk _ _ hm)
      have hE : E r' = some (.map es clock) := by rw [hr r' (by simp), hl]
      obtain ⟨l, h1, h2⟩ := (hs.obj r' _ hE).map hp'
      exact ⟨p, l, hE, hp', h1, h2, e1.symm, e2⟩
    split at h
    · rename_i j hck hfa
      split at h
      case h_2 => cases h
      rename_i e hej
      split at h
      case h_2 => cases h
      rename_i k' hst
      cases h
      intro σ w E ρ hs hf hr hk
      obtain ⟨p, l, hE, hp', h1, h2, e1, e2⟩ := common σ w E ρ hs hr hk
      obtain ⟨kk, u, g1, g2, g3⟩ := h1.get j e hej
      obtain ⟨b, b1, b2⟩ := findA_ok hfa h1 w
      match b, b2 with
      | some (j', v'), ⟨q1, e', q2, q3⟩ =>
        subst q1
        unfold stays at hst
        split at hst
        case h_2 => cases hst
        rename_i k2 hk2
        cases hpk : plainV k2 with
        | false => rw [hpk] at hst; cases hst
        | true =>
          rw [hpk, cond_true] at hst
          cases hst
          have hkk : kk = e.key := by
            unfold findA at hfa
            cases hall : es.all (fun e => plainV e.key) with
            | false => rw [hall] at hfa; cases hfa
            | true =>
              have := List.all_eq_true.1 hall e (List.mem_of_getElem? hej)
              rw [plain_conc σ _ this] at g2
              cases g2; rfl
          have hset := obj_write c hs (.map es clock) (.map (es.modify j fun e => { e with key := k', val := v }) clock) (.map (l.modify j fun e => { e with key := k', val := ρ x }).toArray clock) hE hp' ⟨_, h1.modify (plain_conc σ k' hpk) (hk _ _ hx) j, rfl⟩
          refine ⟨.skip, undef, σ, _, asU_run ?_, .inr ⟨rfl, rfl⟩, conc_undef σ, hset.congr (fun m hm => by subst hm; simp [Res.W]) (fun m => rfl) (fun m hm => ?_) (fun _ _ _ => trivial)⟩
          · rw [e1, e2]
            have hst2 := runP_run w _ _ hk2
            rw [← hkk] at hst2
            simp [Instr.mapUpdate, run_underlying hu, run_getMap h2, runP_run w _ _ hck, b1, g1, hst2, run_setOther (P := P) h2 (by simp)]
          · simp [Res.W] at hm
            subst hm
            exact .inl ⟨_, hE⟩
    · rename_i hck hfa
      cases h
      intro σ w E ρ hs hf hr hk
      obtain ⟨p, l, hE, hp', h1, h2, e1, e2⟩ := common σ w E ρ hs hr hk
      obtain ⟨b, b1, b2⟩ := findA_ok hfa h1 w
      match b, b2 with
      | none, _ =>
        have hset := obj_write c hs (.map es clock) (.map (es ++ [(⟨k, v, clock⟩ : AEntry)]) (clock + 1)) (.map (l ++ [(⟨k, ρ x, clock⟩ : MapEntry)]).toArray (clock + 1)) hE hp' ⟨_, Ents.append h1 (e := (⟨k, v, clock⟩ : AEntry)) (plain_conc σ k hp) (hk _ _ hx), rfl⟩
        refine ⟨.skip, undef, σ, _, asU_run ?_, .inr ⟨rfl, rfl⟩, conc_undef σ, hset.congr (fun m hm => by subst hm; simp [Res.W]) (fun m => rfl) (fun m hm => ?_) (fun _ _ _ => trivial)⟩
        · rw [e1, e2]
          simp [Instr.mapUpdate, run_underlying hu, run_getMap h2, runP_run w _ _ hck, b1, run_setOther (P := P) h2 (by simp)]
        · simp [Res.W] at hm
          subst hm
          exact .inl ⟨_, hE⟩
    · cases h
def deleteOp (P : Program) (ev : Operand → Option Value) (look : Heap) (t : TypeId) (m i : Operand) : Option Res :=
  match P.underlying t, ev i, ev m with
  | some (.map kt _), some k, some (.map (some r)) => match look r with
    | some (.map es clock) => bif plainV k then
        (match runP P (Instr.checkKey es.isEmpty 10000 kt k), findA P kt k es with
        | some (), some (some j) => bif Nat.blt j es.length then some ⟨.tuple #[], [(r, .map (es.eraseIdx j) clock)], [], 0, [r]⟩ else none
        | some (), some none => some ⟨.tuple #[], [(r, .map es clock)], [], 0, [r]⟩
        | _, _ => none) else none
    | _ => none
  | _, _, _ => none
theorem deleteOp_does {t ty : TypeId} {ts : Array TypeId} {m i : Operand} {r : Res} (h0 : ts[0]? = some t) (h : deleteOp P ev look t m i = some r) : Does P ev look c (fun ρ => asV (Builtin.delete_ ts ty #[ρ m, ρ i])) r := by
  unfold deleteOp at h
  split at h
  case h_2 => cases h
  rename_i kt et k r' hu hi hm
  split at h
  case h_2 => cases h
  rename_i es clock hl
  cases hp : plainV k with
  | false => rw [hp] at h; cases h
  | true =>
    rw [hp, cond_true] at h
    have fin : ∀ (es' : List AEntry), (∀ (σ : Sig) (w : World) (l : List MapEntry) (p : Nat), Ents σ es l → w.heap[p]? = some (.map l.toArray clock) → ∃ l', Ents σ es' l' ∧ (Builtin.delete_ ts ty #[.map (some p), k]).run P w = .ok (.tuple #[]) { w with heap := w.heap.setIfInBounds p (.map l'.toArray clock) }) →
        Does P ev look c (fun ρ => asV (Builtin.delete_ ts ty #[ρ m, ρ i])) ⟨.tuple #[], [(r', .map es' clock)], [], 0, [r']⟩ := by
      intro es' hd σ w E ρ hs hf hr hk
      have e1 := hk _ _ hi
      rw [plain_conc σ _ hp] at e1
      injection e1 with e1
      obtain ⟨p, hp', e2⟩ := conc_map (hk _ _ hm)
      have hE : E r' = some (.map es clock) := by rw [hr r' (by simp), hl]
      obtain ⟨l, h1, h2⟩ := (hs.obj r' _ hE).map hp'
      obtain ⟨l', q1, q2⟩ := hd σ w l p.1 h1 h2
      refine ⟨_, .tuple #[], σ, _, asV_run (by rw [← e1, e2]; exact q2), .inl rfl, by simp [conc, concA, concL], (obj_write c hs (.map es clock) (.map es' clock) (.map l'.toArray clock) hE hp' ⟨l', q1, rfl⟩).congr (fun m hm => by subst hm; simp [Res.W]) (fun m => rfl) (fun m hm => ?_) (fun _ _ _ => trivial)⟩
      simp [Res.W] at hm
      subst hm
      exact .inl ⟨_, hE⟩
    have hemp : ∀ (σ : Sig) (l : List MapEntry), Ents σ es l → l.isEmpty = es.isEmpty := fun σ l he => by
      cases he <;> rfl
    split at h
    · rename_i j hck hfa
      cases hj : Nat.blt j es.length with
      | false => rw [hj] at h; cases h
      | true =>
        rw [hj, cond_true] at h
        cases h
        refine fin _ fun σ w l p h1 h2 => ⟨_, h1.erase j, ?_⟩
        obtain ⟨b, b1, b2⟩ := findA_ok hfa h1 w
        match b, b2 with
        | some (j', v'), ⟨q1, e', q2, q3⟩ =>
          subst q1
          simp [Builtin.delete_, h0, run_underlying hu, run_getMap h2, hemp σ l h1, runP_run w _ _ hck, b1, run_setOther (P := P) h2 (by simp), Array.eraseIdxIfInBounds]
          rw [if_pos (List.getElem?_eq_some_iff.1 q2).1]
    · rename_i hck hfa
      cases h
      refine fin _ fun σ w l p h1 h2 => ⟨_, h1, ?_⟩
      obtain ⟨b, b1, b2⟩ := findA_ok hfa h1 w
      match b, b2 with
      | none, _ =>
        simp [Builtin.delete_, h0, run_underlying hu, run_getMap h2, hemp σ l h1, runP_run w _ _ hck, b1, run_setOther (P := P) h2 (by simp)]
    · cases h
end
end
end Go.Proofs.YtpcejpcbkjnlkaaGreatDoor.AE

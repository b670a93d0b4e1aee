/- A walk by computing: tries, abstract values, abstract heaps and what they say of a world. Conditions: none. A walk by computing: plain values, rows from lists, the elementary actions (make, set). Conditions: none. -/
import Derived.OrdersHeld
import Derived.WalkKit
import Derived.Below
set_option linter.unusedVariables false
namespace Go.Proofs.YtpcejpcbkjnlkaaGreatDoor.AE
noncomputable section
open Go.RowKit

/-! ### tries keyed by numbers -/
inductive T (α : Type) where
  | nil
  | node (l : T α) (v : Option α) (r : T α)
theorem beq_no {a b : Nat} (h : ¬ a = b) : Nat.beq a b = false := by
  cases e : Nat.beq a b with
  | false => rfl
  | true => exact absurd (Nat.eq_of_beq_eq_true e) h
/-- look at a trie before going on -/
def T.seq {α β : Type} (t : T α) (f : T α → β) : β := match t with | .nil => f .nil | .node l v r => f (.node l v r)
theorem T.seq_eq {α β : Type} (t : T α) (f : T α → β) : t.seq f = f t := by cases t <;> rfl
/-- the way to a number -/
def path : Nat → Nat → List Bool
  | 0, _ => []
  | f + 1, k => bif Nat.beq k 0 then [] else bif Nat.beq (Nat.mod k 2) 1 then true :: path f (Nat.div k 2) else false :: path f (Nat.pred (Nat.div k 2))
def pathOf (k : Nat) : List Bool := path (k + 1) k
def unpath : List Bool → Nat
  | [] => 0
  | true :: p => 2 * unpath p + 1
  | false :: p => 2 * unpath p + 2
theorem unpath_path : ∀ (f k : Nat), k < f → unpath (path f k) = k
  | 0, _, h => absurd h (Nat.not_lt_zero _)
  | f + 1, k, h => by
    unfold path
    by_cases h0 : k = 0
    · subst h0; rfl
    · rw [beq_no h0, cond_false]
      have e1 : Nat.div k 2 = k / 2 := rfl
      have e2 : Nat.mod k 2 = k % 2 := rfl
      rw [e1, e2]
      by_cases h1 : k % 2 = 1
      · have : Nat.beq (k % 2) 1 = true := by simpa using h1
        rw [this, cond_true]
        simp only [unpath]
        rw [unpath_path f _ (by omega)]
        omega
      · rw [beq_no h1, cond_false]
        simp only [unpath]
        rw [unpath_path f _ (by simp only [Nat.pred_eq_sub_one]; omega)]
        simp only [Nat.pred_eq_sub_one]
        omega
theorem pathOf_inj {j k : Nat} : pathOf j = pathOf k ↔ j = k := by
  constructor
  · intro h
    have := congrArg unpath h
    unfold pathOf at this
    rwa [unpath_path _ _ (Nat.lt_succ_self _), unpath_path _ _ (Nat.lt_succ_self _)] at this
  · intro h; rw [h]
def T.top {α : Type} : T α → Option α
  | .nil => none
  | .node _ v _ => v
def T.down {α : Type} (b : Bool) (ih : T α → Option α) : T α → Option α
  | .nil => none
  | .node l _ r => match b with | true => ih l | false => ih r
noncomputable def T.getP {α : Type} (p : List Bool) : T α → Option α :=
  List.rec (motive := fun _ => T α → Option α) T.top (fun b _ ih => T.down b ih) p
def T.setTop {α : Type} (v : Option α) : T α → T α
  | .nil => .node .nil v .nil
  | .node l _ r => .node l v r
def T.setDown {α : Type} (b : Bool) (ih : T α → T α) : T α → T α
  | .nil => match b with | true => (ih .nil).seq fun x => .node x none .nil | false => (ih .nil).seq fun x => .node .nil none x
  | .node l u r => match b with | true => (ih l).seq fun x => .node x u r | false => (ih r).seq fun x => .node l u x
noncomputable def T.setP {α : Type} (v : Option α) (p : List Bool) : T α → T α :=
  List.rec (motive := fun _ => T α → T α) (T.setTop v) (fun b _ ih => T.setDown b ih) p
theorem T.getP_nil {α : Type} : ∀ p : List Bool, T.getP p (T.nil : T α) = none
  | [] => rfl
  | _ :: _ => rfl
theorem T.getP_setP {α : Type} (v : Option α) : ∀ (p q : List Bool) (t : T α), T.getP q (T.setP v p t) = if q = p then v else T.getP q t
  | [], [], t => by rw [if_pos rfl]; cases t <;> rfl
  | [], b :: q, t => by
    rw [if_neg (by simp)]
    cases t with
    | nil => show T.down b (T.getP q) (.node .nil v .nil) = _; cases b <;> (show T.getP q .nil = _; rw [T.getP_nil, T.getP_nil])
    | node l u r => rfl
  | b :: p, [], t => by
    rw [if_neg (by simp)]
    cases t with
    | nil => show T.top (T.setDown b (T.setP v p) .nil) = _; cases b <;> (simp only [T.setDown, T.seq_eq]; rfl)
    | node l u r => show T.top (T.setDown b (T.setP v p) (.node l u r)) = _; cases b <;> (simp only [T.setDown, T.seq_eq]; rfl)
  | b :: p, d :: q, t => by
    have ih := T.getP_setP v p q
    show T.down d (T.getP q) (T.setDown b (T.setP v p) t) = _
    cases t with
    | nil =>
      have hn : T.getP (d :: q) (T.nil : T α) = none := rfl
      rw [hn]
      cases b <;> cases d <;> simp only [T.setDown, T.seq_eq, T.down, ih, T.getP_nil, List.cons.injEq, true_and, reduceCtorEq, false_and, if_false] <;> rfl
    | node l u r =>
      have hn : T.getP (d :: q) (T.node l u r) = T.down d (T.getP q) (.node l u r) := rfl
      rw [hn]
      cases b <;> cases d <;> simp only [T.setDown, T.seq_eq, T.down, ih, List.cons.injEq, true_and, reduceCtorEq, false_and, if_false]
noncomputable def T.get {α : Type} (t : T α) (k : Nat) : Option α := T.getP (pathOf k) t
noncomputable def T.put {α : Type} (t : T α) (k : Nat) (v : Option α) : T α := T.setP v (pathOf k) t
theorem T.get_nil {α : Type} (k : Nat) : (T.nil : T α).get k = none := T.getP_nil _
theorem T.get_put {α : Type} (t : T α) (k : Nat) (v : Option α) (j : Nat) : (t.put k v).get j = if j = k then v else t.get j := by
  unfold T.get T.put
  rw [T.getP_setP]
  by_cases h : j = k
  · rw [if_pos (pathOf_inj.2 h), if_pos h]
  · rw [if_neg (fun e => h (pathOf_inj.1 e)), if_neg h]

/-! ### abstract values: values whose blocks are names; σ tells the block of a name and its capacity; a capacity from BIG on is not known -/
abbrev Sig := Nat → Option (Nat × Nat)
def BIG : Nat := 18446744073709551616
mutual
def conc (σ : Sig) : Value → Option Value
  | .bool b => some (.bool b)
  | .int k n => some (.int k n)
  | .float k b => some (.float k b)
  | .complex k a b => some (.complex k a b)
  | .string s => some (.string s)
  | .pointer none => some (.pointer none)
  | .pointer (some a) => match σ a.block with | some p => some (.pointer (some ⟨p.1, a.off, a.spot⟩)) | none => none
  | .slice none l c => some (.slice none l c)
  | .slice (some a) l c => match σ a.block with | some p => some (.slice (some ⟨p.1, a.off, a.spot⟩) l (if c < BIG then c else p.2 - (c - BIG))) | none => none
  | .map none => some (.map none)
  | .map (some r) => match σ r with | some p => some (.map (some p.1)) | none => none
  | .chan _ => none
  | .func fn x y => match concA σ x, concA σ y with | some x', some y' => some (.func fn x' y') | _, _ => none
  | .nilFunc => some .nilFunc
  | .iface t v => match conc σ v with | some v' => some (.iface t v') | none => none
  | .nilIface => some .nilIface
  | .agg cs => match concA σ cs with | some cs' => some (.agg cs') | none => none
  | .tuple vs => match concA σ vs with | some vs' => some (.tuple vs') | none => none
def concA (σ : Sig) : Array Value → Option (Array Value)
  | ⟨l⟩ => match concL σ l with | some l' => some ⟨l'⟩ | none => none
def concL (σ : Sig) : List Value → Option (List Value)
  | [] => some []
  | v :: l => match conc σ v, concL σ l with | some v', some l' => some (v' :: l') | _, _ => none
end

/-- σ' knows all that σ knows -/
def Ext (σ σ' : Sig) : Prop := ∀ n p, σ n = some p → σ' n = some p
theorem Ext.refl (σ : Sig) : Ext σ σ := fun _ _ h => h
theorem Ext.trans {a b c : Sig} (h : Ext a b) (k : Ext b c) : Ext a c := fun n p e => k n p (h n p e)
mutual
theorem conc_ext {σ σ' : Sig} (h : Ext σ σ') : ∀ (v v' : Value), conc σ v = some v' → conc σ' v = some v'
  | .bool _, _, e | .int _ _, _, e | .float _ _, _, e | .complex _ _ _, _, e | .string _, _, e | .pointer none, _, e | .slice none _ _, _, e | .map none, _, e | .nilFunc, _, e | .nilIface, _, e => by
    simpa only [conc] using e
  | .chan _, _, e => by simp [conc] at e
  | .pointer (some a), v', e => by
    simp only [conc] at e ⊢
    cases hs : σ a.block with
    | none => rw [hs] at e; cases e
    | some p => rw [hs] at e; rw [h _ _ hs]; exact e
  | .slice (some a) l c, v', e => by
    simp only [conc] at e ⊢
    cases hs : σ a.block with
    | none => rw [hs] at e; cases e
    | some p => rw [hs] at e; rw [h _ _ hs]; exact e
  | .map (some r), v', e => by
    simp only [conc] at e ⊢
    cases hs : σ r with
    | none => rw [hs] at e; cases e
    | some p => rw [hs] at e; rw [h _ _ hs]; exact e
  | .func fn x y, v', e => by
    simp only [conc] at e ⊢
    cases hx : concA σ x with
    | none => rw [hx] at e; cases e
    | some x' =>
      cases hy : concA σ y with
      | none => rw [hx, hy] at e; cases e
      | some y' => rw [hx, hy] at e; rw [concA_ext h x x' hx, concA_ext h y y' hy]; exact e
  | .iface t v, v', e => by
    simp only [conc] at e ⊢
    cases hx : conc σ v with
    | none => rw [hx] at e; cases e
    | some x' => rw [hx] at e; rw [conc_ext h v x' hx]; exact e
  | .agg cs, v', e => by
    simp only [conc] at e ⊢
    cases hx : concA σ cs with
    | none => rw [hx] at e; cases e
    | some x' => rw [hx] at e; rw [concA_ext h cs x' hx]; exact e
  | .tuple cs, v', e => by
    simp only [conc] at e ⊢
    cases hx : concA σ cs with
    | none => rw [hx] at e; cases e
    | some x' => rw [hx] at e; rw [concA_ext h cs x' hx]; exact e
theorem concA_ext {σ σ' : Sig} (h : Ext σ σ') : ∀ (v v' : Array Value), concA σ v = some v' → concA σ' v = some v'
  | ⟨l⟩, v', e => by
    simp only [concA] at e ⊢
    cases hx : concL σ l with
    | none => rw [hx] at e; cases e
    | some x' => rw [hx] at e; rw [concL_ext h l x' hx]; exact e
theorem concL_ext {σ σ' : Sig} (h : Ext σ σ') : ∀ (v v' : List Value), concL σ v = some v' → concL σ' v = some v'
  | [], v', e => by simpa only [concL] using e
  | v :: l, v', e => by
    simp only [concL] at e ⊢
    cases hx : conc σ v with
    | none => rw [hx] at e; cases e
    | some x' =>
      cases hy : concL σ l with
      | none => rw [hx, hy] at e; cases e
      | some y' => rw [hx, hy] at e; rw [conc_ext h v x' hx, concL_ext h l y' hy]; exact e
end
theorem concL_get {σ : Sig} : ∀ (l l' : List Value), concL σ l = some l' → l'.length = l.length ∧ ∀ (i : Nat) (v : Value), l[i]? = some v → ∃ v', conc σ v = some v' ∧ l'[i]? = some v'
  | [], l', e => by
    simp only [concL] at e
    cases e
    exact ⟨rfl, fun i v h => by simp at h⟩
  | v :: l, l', e => by
    simp only [concL] at e
    cases hx : conc σ v with
    | none => rw [hx] at e; cases e
    | some x' =>
      cases hy : concL σ l with
      | none => rw [hx, hy] at e; cases e
      | some y' =>
        rw [hx, hy] at e
        cases e
        obtain ⟨h1, h2⟩ := concL_get l y' hy
        refine ⟨by simp [h1], fun i u hu => ?_⟩
        cases i with
        | zero => simp at hu; subst hu; exact ⟨x', hx, by simp⟩
        | succ i => simp at hu; simpa using h2 i u hu
theorem concL_of {σ : Sig} : ∀ (l : List Value), (∀ v ∈ l, ∃ v', conc σ v = some v') → ∃ l', concL σ l = some l'
  | [], _ => ⟨[], by simp only [concL]⟩
  | v :: l, h => by
    obtain ⟨v', hv⟩ := h v (by simp)
    obtain ⟨l', hl⟩ := concL_of l (fun u hu => h u (by simp [hu]))
    exact ⟨v' :: l', by simp only [concL, hv, hl]⟩
theorem concA_list {σ : Sig} {a a' : Array Value} (h : concA σ a = some a') : concL σ a.toList = some a'.toList := by
  obtain ⟨l⟩ := a
  simp only [concA] at h
  cases hx : concL σ l with
  | none => rw [hx] at h; cases h
  | some x' => rw [hx] at h; cases h; rfl
theorem concA_of {σ : Sig} {a : Array Value} {l' : List Value} (h : concL σ a.toList = some l') : concA σ a = some ⟨l'⟩ := by
  obtain ⟨l⟩ := a
  simp only at h
  simp only [concA, h]
theorem concA_get {σ : Sig} {a a' : Array Value} (h : concA σ a = some a') : a'.size = a.size ∧ ∀ (i : Nat) (v : Value), a[i]? = some v → ∃ v', conc σ v = some v' ∧ a'[i]? = some v' := by
  obtain ⟨h1, h2⟩ := concL_get _ _ (concA_list h)
  refine ⟨by simpa using h1, fun i v hv => ?_⟩
  have := h2 i v (by simpa using hv)
  simpa using this

/-! ### abstract heaps -/
structure AEntry where
  key : Value
  val : Value
  born : Nat
inductive AObj where
  /-- a row of len cells; what stands in no place of the trie is dflt; spare: the block may be longer, it has cap * s cells -/
  | row (len : Nat) (cells : T Value) (dflt : Option Value) (elem : TypeId) (spare : Option Nat)
  | map (entries : List AEntry) (clock : Nat)
  | strIter (s : ByteArray) (pos : Nat)
  | mapIter (map : Option Nat) (since : Nat) (seen : List Nat) (stepped : Nat)
def cellAt (len : Nat) (cells : T Value) (dflt : Option Value) (i : Nat) : Option Value :=
  bif Nat.blt i len then (match cells.get i with | some v => some v | none => dflt) else none
theorem cellAt_lt {len : Nat} {cells : T Value} {dflt : Option Value} {i : Nat} {v : Value} (h : cellAt len cells dflt i = some v) : i < len := by
  unfold cellAt at h
  cases e : Nat.blt i len with
  | false => rw [e] at h; cases h
  | true => simpa using e
/-- entries of a map as they stand in the world -/
inductive Ents (σ : Sig) : List AEntry → List MapEntry → Prop where
  | nil : Ents σ [] []
  | cons {e : AEntry} {l l'} {k v : Value} : conc σ e.key = some k → conc σ e.val = some v → Ents σ l l' → Ents σ (e :: l) (⟨k, v, e.born⟩ :: l')
def SpareOk (cap len size : Nat) : Option Nat → Prop
  | none => size = len
  | some s => size = cap * s ∧ cap ≤ maxLen
def ObjIs (σ : Sig) (cap : Nat) : AObj → Option Obj → Prop
  | .row len cells dflt elem spare, ob => ∃ C fr, ob = some (.cells C elem fr) ∧ len ≤ C.size ∧ (∀ i, i < C.size → ¬ (fr.1 ≤ i ∧ i < fr.2)) ∧
      SpareOk cap len C.size spare ∧ ∀ i v, cellAt len cells dflt i = some v → ∃ v', conc σ v = some v' ∧ C[i]? = some v'
  | .map es clock, ob => ∃ l, Ents σ es l ∧ ob = some (.map l.toArray clock)
  | .strIter s pos, ob => ob = some (.stringIter s pos)
  | .mapIter none since seen st, ob => ob = some (.mapIter none since seen.toArray st)
  | .mapIter (some m) since seen st, ob => ∃ p, σ m = some p ∧ ob = some (.mapIter (some p.1) since seen.toArray st)
theorem Ents.ext {σ σ' : Sig} (h : Ext σ σ') {l : List AEntry} {l' : List MapEntry} (e : Ents σ l l') : Ents σ' l l' := by
  induction e with
  | nil => exact .nil
  | cons hk hv _ ih => exact .cons (conc_ext h _ _ hk) (conc_ext h _ _ hv) ih
theorem ObjIs.ext {σ σ' : Sig} (h : Ext σ σ') {cap : Nat} {o : AObj} {ob : Option Obj} (e : ObjIs σ cap o ob) : ObjIs σ' cap o ob := by
  cases o with
  | row len cells dflt elem spare =>
    obtain ⟨C, fr, h1, h2, h3, h4, h5⟩ := e
    exact ⟨C, fr, h1, h2, h3, h4, fun i v hv => let ⟨v', hc, hi⟩ := h5 i v hv; ⟨v', conc_ext h _ _ hc, hi⟩⟩
  | map es clock =>
    obtain ⟨l, h1, h2⟩ := e
    exact ⟨l, h1.ext h, h2⟩
  | strIter s pos => exact e
  | mapIter m since seen st =>
    cases m with
    | none => exact e
    | some m => obtain ⟨p, h1, h2⟩ := e; exact ⟨p, h _ _ h1, h2⟩
/-- name n stands for an object in the world -/
def At (σ : Sig) (w : World) (n : Nat) (o : AObj) : Prop := ∃ b cap, σ n = some (b, cap) ∧ ObjIs σ cap o w.heap[b]?
theorem ObjIs.there {σ : Sig} {cap : Nat} {o : AObj} {ob : Option Obj} (e : ObjIs σ cap o ob) : ∃ x, ob = some x := by
  cases o with
  | row => obtain ⟨C, fr, h1, _⟩ := e; exact ⟨_, h1⟩
  | map => obtain ⟨l, _, h⟩ := e; exact ⟨_, h⟩
  | strIter => exact ⟨_, e⟩
  | mapIter m since seen st =>
    cases m with
    | none => exact ⟨_, e⟩
    | some m => obtain ⟨p, _, h⟩ := e; exact ⟨_, h⟩
theorem At.lt {σ : Sig} {w : World} {n : Nat} {o : AObj} (h : At σ w n o) : ∃ p, σ n = some p ∧ p.1 < w.heap.size := by
  obtain ⟨b, cap, h1, h2⟩ := h
  obtain ⟨x, hx⟩ := h2.there
  exact ⟨(b, cap), h1, (Array.getElem?_eq_some_iff.1 hx).1⟩
abbrev Heap := Nat → Option AObj
structure Sat (σ : Sig) (H : Heap) (w : World) : Prop where
  obj : ∀ n o, H n = some o → At σ w n o
  inj : ∀ n m o o' p q, H n = some o → H m = some o' → σ n = some p → σ m = some q → p.1 = q.1 → n = m
/-- what an action leaves: all blocks but those of the names of W, and what is new -/
structure Fr (σ : Sig) (W : Nat → Prop) (w w' : World) : Prop where
  os : w'.os = w.os
  tape : w'.tape = w.tape
  output : w'.output = w.output
  size : w.heap.size ≤ w'.heap.size
  block : ∀ b, b < w.heap.size → (∀ n p, W n → σ n = some p → p.1 ≠ b) → w'.heap[b]? = w.heap[b]?
def New (c c' n : Nat) : Prop := c ≤ n ∧ n < c'
def Fresh (σ : Sig) (c c' : Nat) : Prop := ∀ n, New c c' n → σ n = none
/-- an action from the heap H to the heap H'; it touched the names of W, and made those from c to c' -/
structure Run (σ : Sig) (w : World) (H : Heap) (c : Nat) (W : Nat → Prop) (c' : Nat) (H' : Heap) (σ' : Sig) (w' : World) : Prop where
  le : c ≤ c'
  sat : Sat σ' H' w'
  same : ∀ n, ¬ New c c' n → σ' n = σ n
  fr : Fr σ W w w'
  keep : ∀ n, ¬ W n → ¬ New c c' n → H' n = H n
  dom : ∀ n, W n → (∃ o, H n = some o) ∨ New c c' n
  new : ∀ n p, New c c' n → σ' n = some p → w.heap.size ≤ p.1 ∨ ∃ m q, W m ∧ ¬ New c c' m ∧ H' m = none ∧ σ m = some q ∧ q.1 = p.1
section
variable {σ σ1 σ2 σ' : Sig} {w w1 w2 w' : World} {H H1 H2 H' G G' : Heap} {c c1 c2 c' : Nat} {W W1 W2 : Nat → Prop}
theorem Run.ext (h : Run σ w H c W c' H' σ' w') (hf : Fresh σ c c') : Ext σ σ' := by
  intro n p hp
  by_cases hn : New c c' n
  · rw [hf n hn] at hp; cases hp
  · rw [h.same n hn]; exact hp
theorem Fr.refl (σ : Sig) (W : Nat → Prop) (w : World) : Fr σ W w w := ⟨rfl, rfl, rfl, Nat.le_refl _, fun _ _ _ => rfl⟩
theorem Run.refl (h : Sat σ H w) (W : Nat → Prop) (hW : ∀ n, W n → ∃ o, H n = some o) : Run σ w H c W c H σ w :=
  ⟨Nat.le_refl _, h, fun _ _ => rfl, Fr.refl _ _ _, fun _ _ _ => rfl, fun n hn => .inl (hW n hn), fun n p hn _ => by have := hn.1; have := hn.2; omega⟩
theorem Run.seq (hf : Fresh σ c c2) (h : Run σ w H c W1 c1 H1 σ1 w1) (k : Run σ1 w1 H1 c1 W2 c2 H2 σ2 w2) : Run σ w H c (fun n => W1 n ∨ W2 n) c2 H2 σ2 w2 := by
  have hle := h.le
  have kle := k.le
  have old1 : ∀ n, ¬ New c c2 n → ¬ New c c1 n := fun n hn e => hn ⟨e.1, Nat.lt_of_lt_of_le e.2 kle⟩
  have old2 : ∀ n, ¬ New c c2 n → ¬ New c1 c2 n := fun n hn e => hn ⟨Nat.le_trans hle e.1, e.2⟩
  have dead : ∀ m, H1 m = none → ¬ New c1 c2 m → H2 m = none := fun m hm hn => by
    by_cases hw : W2 m
    · rcases k.dom m hw with ⟨o, ho⟩ | hn2
      · rw [hm] at ho; cases ho
      · exact absurd hn2 hn
    · rw [k.keep m hw hn]; exact hm
  refine ⟨Nat.le_trans hle kle, k.sat, fun n hn => (k.same n (old2 n hn)).trans (h.same n (old1 n hn)), ?_, fun n hw hn => (k.keep n (fun e => hw (.inr e)) (old2 n hn)).trans (h.keep n (fun e => hw (.inl e)) (old1 n hn)), ?_, ?_⟩
  · refine ⟨k.fr.os.trans h.fr.os, k.fr.tape.trans h.fr.tape, k.fr.output.trans h.fr.output, Nat.le_trans h.fr.size k.fr.size, fun b hb hnot => ?_⟩
    rw [k.fr.block b (Nat.lt_of_lt_of_le hb h.fr.size) (fun n p hw hp => ?_), h.fr.block b hb (fun n p hw hp => hnot n p (.inl hw) hp)]
    by_cases hn : New c c1 n
    · rcases h.new n p hn hp with h1 | ⟨m, q, hm, _, _, hq, e⟩
      · omega
      · rw [← e]; exact hnot m q (.inl hm) hq
    · rw [h.same n hn] at hp
      exact hnot n p (.inr hw) hp
  · intro n hw
    rcases hw with hw | hw
    · rcases h.dom n hw with h1 | h1
      · exact .inl h1
      · exact .inr ⟨h1.1, Nat.lt_of_lt_of_le h1.2 kle⟩
    · rcases k.dom n hw with ⟨o, ho⟩ | h1
      · by_cases hn : New c c1 n
        · exact .inr ⟨hn.1, Nat.lt_of_lt_of_le hn.2 kle⟩
        · by_cases hw1 : W1 n
          · rcases h.dom n hw1 with h1 | h1
            · exact .inl h1
            · exact absurd h1 hn
          · rw [h.keep n hw1 hn] at ho; exact .inl ⟨o, ho⟩
      · exact .inr ⟨Nat.le_trans hle h1.1, h1.2⟩
  · intro n p hn hp
    have live : ∀ m q, σ m = some q → ¬ New c c2 m := fun m q hq e => by rw [hf m e] at hq; cases hq
    by_cases h1 : New c c1 n
    · have hs : σ1 n = some p := by rw [← k.same n (fun e => by have := h1.2; have := e.1; omega)]; exact hp
      rcases h.new n p h1 hs with h2 | ⟨m, q, hm, hmn, hm1, hq, e⟩
      · exact .inl h2
      · have hl := live m q hq
        exact .inr ⟨m, q, .inl hm, hl, dead m hm1 (old2 m hl), hq, e⟩
    · have h2 : New c1 c2 n := ⟨by rcases Nat.lt_or_ge n c1 with h3 | h3; exact absurd ⟨hn.1, h3⟩ h1; exact h3, hn.2⟩
      rcases k.new n p h2 hp with h3 | ⟨m, q, hm, hmn, hm2, hq, e⟩
      · exact .inl (Nat.le_trans h.fr.size h3)
      · by_cases hm1 : New c c1 m
        · rcases h.new m q hm1 hq with h4 | ⟨m', q', hm', _, hd, hq', e'⟩
          · exact .inl (by omega)
          · have hl := live m' q' hq'
            exact .inr ⟨m', q', .inl hm', hl, dead m' hd (old2 m' hl), hq', e'.trans e⟩
        · have hq0 : σ m = some q := by rw [← h.same m hm1]; exact hq
          exact .inr ⟨m, q, .inr hm, live m q hq0, hm2, hq0, e⟩
/-- the frame rule: the same action in a greater heap -/
theorem Run.frame (h : Run σ w H c W c' H' σ' w') (hf : Fresh σ c c') (hG : Sat σ G w) (hsub : ∀ n o, H n = some o → G n = some o)
    (h1 : ∀ n, (W n ∨ New c c' n) → G' n = H' n) (h2 : ∀ n, ¬ W n → ¬ New c c' n → G' n = G n) : Run σ w G c W c' G' σ' w' := by
  have hext := h.ext hf
  have domG : ∀ n, W n → (∃ o, G n = some o) ∨ New c c' n := fun n hn => (h.dom n hn).imp (fun ⟨o, ho⟩ => ⟨o, hsub n o ho⟩) id
  have stays : ∀ n o p, ¬ W n → ¬ New c c' n → G n = some o → σ n = some p → w'.heap[p.1]? = w.heap[p.1]? := by
    intro n o p hw hn ho hp
    obtain ⟨p', hp', hlt⟩ := (hG.obj n o ho).lt
    rw [hp] at hp'
    cases hp'
    refine h.fr.block p.1 hlt (fun m q hm hq e => ?_)
    rcases domG m hm with ⟨o', ho'⟩ | hnm
    · exact hw (by rw [hG.inj n m o o' p q ho ho' hp hq e.symm]; exact hm)
    · rw [hf m hnm] at hq; cases hq
  refine ⟨h.le, ⟨fun n o ho => ?_, ?_⟩, h.same, h.fr, h2, domG, ?_⟩
  · by_cases hw : W n ∨ New c c' n
    · rw [h1 n hw] at ho; exact h.sat.obj n o ho
    · have hw1 : ¬ W n := fun e => hw (.inl e)
      have hw2 : ¬ New c c' n := fun e => hw (.inr e)
      rw [h2 n hw1 hw2] at ho
      obtain ⟨b, cap, hb, hob⟩ := hG.obj n o ho
      refine ⟨b, cap, hext _ _ hb, ?_⟩
      rw [stays n o (b, cap) hw1 hw2 ho hb]
      exact hob.ext hext
  · -- one name a block
    have key : ∀ n m o o' p q, (W n ∨ New c c' n) → ¬ (W m ∨ New c c' m) → G' n = some o → G' m = some o' → σ' n = some p → σ' m = some q → p.1 = q.1 → False := by
      intro n m o o' p q hn hm ho ho' hp hq e
      have hm1 : ¬ W m := fun e => hm (.inl e)
      have hm2 : ¬ New c c' m := fun e => hm (.inr e)
      rw [h2 m hm1 hm2] at ho'
      rw [h.same m hm2] at hq
      by_cases hnn : New c c' n
      · rcases h.new n p hnn hp with h3 | ⟨k, r, hk, hkn, _, hr, e2⟩
        · obtain ⟨q', hq', hlt⟩ := (hG.obj m o' ho').lt
          rw [hq] at hq'
          cases hq'
          omega
        · rcases domG k hk with ⟨o2, ho2⟩ | h4
          · have := hG.inj k m o2 o' r q ho2 ho' hr hq (e2.trans e)
            exact hm1 (this ▸ hk)
          · exact hkn h4
      · have hw : W n := hn.resolve_right hnn
        rw [h.same n hnn] at hp
        rcases domG n hw with ⟨o2, ho2⟩ | h4
        · have := hG.inj n m o2 o' p q ho2 ho' hp hq e
          exact hm1 (this ▸ hw)
        · exact hnn h4
    intro n m o o' p q ho ho' hp hq e
    by_cases hn : W n ∨ New c c' n
    · by_cases hm : W m ∨ New c c' m
      · rw [h1 n hn] at ho
        rw [h1 m hm] at ho'
        exact h.sat.inj n m o o' p q ho ho' hp hq e
      · exact (key n m o o' p q hn hm ho ho' hp hq e).elim
    · by_cases hm : W m ∨ New c c' m
      · exact (key m n o' o q p hm hn ho' ho hq hp e.symm).elim
      · have hn1 : ¬ W n := fun e => hn (.inl e)
        have hn2 : ¬ New c c' n := fun e => hn (.inr e)
        have hm1 : ¬ W m := fun e => hm (.inl e)
        have hm2 : ¬ New c c' m := fun e => hm (.inr e)
        rw [h2 n hn1 hn2] at ho
        rw [h2 m hm1 hm2] at ho'
        rw [h.same n hn2] at hp
        rw [h.same m hm2] at hq
        exact hG.inj n m o o' p q ho ho' hp hq e
  · intro n p hn hp
    rcases h.new n p hn hp with h3 | ⟨m, q, hm, hmn, hd, hq, e⟩
    · exact .inl h3
    · exact .inr ⟨m, q, hm, hmn, by rw [h1 m (.inl hm)]; exact hd, hq, e⟩
end
end
end Go.Proofs.YtpcejpcbkjnlkaaGreatDoor.AE

namespace Go.Proofs.YtpcejpcbkjnlkaaGreatDoor.AE
noncomputable section
open Go.RowKit

/-! ### values without names -/
mutual
def plainV : Value → Bool
  | .bool _ | .int _ _ | .string _ | .pointer none | .slice none _ _ | .map none | .nilFunc | .nilIface => true
  | .iface _ v => plainV v
  | .agg cs | .tuple cs => plainA cs
  | _ => false
def plainA : Array Value → Bool
  | ⟨l⟩ => plainL l
def plainL : List Value → Bool
  | [] => true
  | v :: l => plainV v && plainL l
end
mutual
theorem plain_conc (σ : Sig) : ∀ v : Value, plainV v = true → conc σ v = some v
  | .bool _, _ | .int _ _, _ | .string _, _ | .pointer none, _ | .slice none _ _, _ | .map none, _ | .nilFunc, _ | .nilIface, _ => by simp only [conc]
  | .iface t v, h => by simp only [plainV] at h; simp only [conc, plain_conc σ v h]
  | .agg cs, h => by simp only [plainV] at h; simp only [conc, plainA_conc σ cs h]
  | .tuple cs, h => by simp only [plainV] at h; simp only [conc, plainA_conc σ cs h]
  | .float _ _, h | .complex _ _ _, h | .chan _, h | .func _ _ _, h | .pointer (some _), h | .slice (some _) _ _, h | .map (some _), h => by simp [plainV] at h
theorem plainA_conc (σ : Sig) : ∀ v : Array Value, plainA v = true → concA σ v = some v
  | ⟨l⟩, h => by simp only [plainA] at h; simp only [concA, plainL_conc σ l h]
theorem plainL_conc (σ : Sig) : ∀ v : List Value, plainL v = true → concL σ v = some v
  | [], _ => by simp only [concL]
  | v :: l, h => by
    simp only [plainL, Bool.and_eq_true] at h
    simp only [concL, plain_conc σ v h.1, plainL_conc σ l h.2]
end
/-- a term that asks nothing of the world -/
def runP (P : Program) {α : Type} : Sem α → Option α
  | .pure a => some a
  | .program k => runP P (k P)
  | .mark _ k => runP P k
  | _ => none
theorem runP_run {P : Program} {α : Type} (w : World) : ∀ (s : Sem α) (a : α), runP P s = some a → s.run P w = .ok a w
  | .pure b, a, h => by simp only [runP] at h; cases h; rfl
  | .program k, a, h => by simp only [runP] at h; simp only [Sem.run]; exact runP_run w (k P) a h
  | .mark m k, a, h => by simp only [runP] at h; simp only [Sem.run]; exact runP_run w k a h
  | .load .., _, h | .store .., _, h | .new .., _, h | .shape .., _, h | .freeze .., _, h | .frozen .., _, h | .getObj .., _, h | .setObj .., _, h | .choose .., _, h | .sys .., _, h | .halt _, _, h => by simp [runP] at h

/-! ### rows from lists -/
def T.ofList {α : Type} : Nat → List α → T α → T α
  | _, [], t => t
  | i, v :: l, t => T.ofList (i + 1) l (t.put i (some v))
theorem T.get_ofList {α : Type} : ∀ (l : List α) (i : Nat) (t : T α) (j : Nat), (T.ofList i l t).get j = if i ≤ j ∧ j < i + l.length then l[j - i]? else t.get j
  | [], i, t, j => by simp [T.ofList]; intro h1 h2; omega
  | v :: l, i, t, j => by
    simp only [T.ofList]
    rw [T.get_ofList l (i + 1) _ j, T.get_put]
    by_cases h1 : j = i
    · subst h1
      rw [if_neg (by omega), if_pos rfl, if_pos ⟨by omega, by simp⟩]
      simp
    · rw [if_neg h1]
      by_cases h2 : i + 1 ≤ j ∧ j < i + 1 + l.length
      · rw [if_pos h2, if_pos ⟨by omega, by simp; omega⟩]
        have : j - i = (j - (i + 1)) + 1 := by omega
        rw [this]; simp
      · rw [if_neg h2, if_neg (by simp; omega)]
def rowOf (l : List Value) (e : TypeId) : AObj := .row l.length (T.ofList 0 l .nil) none e none
theorem cellAt_rowOf (l : List Value) (i : Nat) : cellAt l.length (T.ofList 0 l .nil) none i = l[i]? := by
  unfold cellAt
  rw [T.get_ofList]
  by_cases h : i < l.length
  · have : Nat.blt i l.length = true := by simpa using h
    rw [this, if_pos (by omega)]
    simp [List.getElem?_eq_getElem h]
  · have : Nat.blt i l.length = false := by
      cases e : Nat.blt i l.length with
      | false => rfl
      | true => exact absurd (by simpa using e) h
    rw [this, List.getElem?_eq_none (show l.length ≤ i by omega)]; exact cond_false _ _
theorem isRow {σ : Sig} {l l' : List Value} (h : concL σ l = some l') (e : TypeId) (cap : Nat) : ObjIs σ cap (rowOf l e) (some (.cells l'.toArray e)) := by
  obtain ⟨h1, h2⟩ := concL_get l l' h
  refine ⟨l'.toArray, (0, 0), rfl, by simp [h1], fun i _ => by omega, by simp [SpareOk, h1], fun i v hv => ?_⟩
  rw [cellAt_rowOf] at hv
  simpa using h2 i v hv
theorem conc_cells {σ : Sig} {v v' : Value} (h : conc σ v = some v') : concL σ v.cells.toList = some v'.cells.toList := by
  by_cases hag : ∃ cs, v = .agg cs
  · obtain ⟨cs, rfl⟩ := hag
    simp only [conc] at h
    cases hx : concA σ cs with
    | none => rw [hx] at h; cases h
    | some x => rw [hx] at h; cases h; exact concA_list hx
  · have e1 : v.cells = #[v] := by cases v <;> first | rfl | exact absurd ⟨_, rfl⟩ hag
    have e2 : v'.cells = #[v'] := by
      cases v with
      | agg cs => exact absurd ⟨_, rfl⟩ hag
      | pointer a => cases a <;> simp only [conc] at h <;> (try split at h) <;> cases h <;> rfl
      | slice a l c => cases a <;> simp only [conc] at h <;> (try split at h) <;> cases h <;> rfl
      | map a => cases a <;> simp only [conc] at h <;> (try split at h) <;> cases h <;> rfl
      | func f x y => simp only [conc] at h; split at h <;> cases h; rfl
      | iface t x => simp only [conc] at h; split at h <;> cases h; rfl
      | tuple cs => simp only [conc] at h; split at h <;> cases h; rfl
      | chan a => simp [conc] at h
      | _ => simp only [conc] at h; cases h; rfl
    rw [e1, e2]
    simp only [concL, h]

/-! ### elementary actions -/
def upd {α : Type} (f : Nat → Option α) (n : Nat) (v : Option α) : Nat → Option α := fun m => if m = n then v else f m
theorem upd_same {α : Type} (f : Nat → Option α) (n : Nat) (v : Option α) : upd f n v n = v := if_pos rfl
theorem upd_ne {α : Type} (f : Nat → Option α) (n : Nat) (v : Option α) {m : Nat} (h : m ≠ n) : upd f n v m = f m := if_neg h
theorem T.get_put' {α : Type} (t : T α) (k : Nat) (v : Option α) : (t.put k v).get = upd t.get k v := funext fun j => T.get_put t k v j
section
variable {σ : Sig} {w : World} {E : Heap} {c : Nat}
theorem New.one {c n : Nat} (h : New c (c + 1) n) : n = c := by have := h.1; have := h.2; omega
/-- a new object -/
theorem Run.make (hs : Sat σ E w) (hf : Fresh σ c (c + 1)) (o : AObj) (ob : Obj) (cap : Nat) (ho : ∀ σ', Ext σ σ' → ObjIs σ' cap o (some ob)) :
    Run σ w E c (fun _ => False) (c + 1) (upd E c (some o)) (upd σ c (some (w.heap.size, cap))) (w.alloc ob) := by
  have hc : σ c = none := hf c ⟨Nat.le_refl _, Nat.lt_succ_self _⟩
  have hE : E c = none := by
    cases h : E c with
    | none => rfl
    | some o' => obtain ⟨p, hp, _⟩ := (hs.obj c o' h).lt; rw [hc] at hp; cases hp
  have hx : Ext σ (upd σ c (some (w.heap.size, cap))) := fun n p hp => by
    by_cases hn : n = c
    · subst hn; rw [hc] at hp; cases hp
    · rw [upd_ne _ _ _ hn]; exact hp
  have old : ∀ n o', E n = some o' → n ≠ c ∧ ∃ p, σ n = some p ∧ p.1 < w.heap.size := fun n o' h => ⟨(fun e => by rw [e, hE] at h; cases h), (hs.obj n o' h).lt⟩
  refine ⟨Nat.le_succ _, ⟨fun n o' h => ?_, fun n m o1 o2 p q h1 h2 hp hq e => ?_⟩, fun n hn => upd_ne _ _ _ (fun e => hn ⟨by omega, by omega⟩), ⟨rfl, rfl, rfl, by simp, fun b hb _ => Below.heap_alloc w ob b hb⟩, fun n _ hn => upd_ne _ _ _ (fun e => hn ⟨by omega, by omega⟩), fun n h => h.elim, fun n p hn hp => ?_⟩
  · by_cases hn : n = c
    · subst hn
      rw [upd_same] at h
      cases h
      exact ⟨w.heap.size, cap, upd_same _ _ _, by rw [heap_alloc_new]; exact ho _ hx⟩
    · rw [upd_ne _ _ _ hn] at h
      obtain ⟨b, cap', h1, h2⟩ := hs.obj n o' h
      obtain ⟨_, p, hp, hlt⟩ := old n o' h
      rw [h1] at hp; cases hp
      exact ⟨b, cap', hx _ _ h1, by rw [Below.heap_alloc w ob b hlt]; exact h2.ext hx⟩
  · by_cases hn : n = c
    · by_cases hm : m = c
      · rw [hn, hm]
      · subst hn
        rw [upd_same] at hp; cases hp
        rw [upd_ne _ _ _ hm] at h2 hq
        obtain ⟨_, p, hp, hlt⟩ := old m o2 h2
        rw [hq] at hp; cases hp
        simp only at e; omega
    · by_cases hm : m = c
      · subst hm
        rw [upd_same] at hq; cases hq
        rw [upd_ne _ _ _ hn] at h1 hp
        obtain ⟨_, p', hp', hlt⟩ := old n o1 h1
        rw [hp] at hp'; cases hp'
        simp only at e; omega
      · rw [upd_ne _ _ _ hn] at h1 hp
        rw [upd_ne _ _ _ hm] at h2 hq
        exact hs.inj n m o1 o2 p q h1 h2 hp hq e
  · have := New.one hn
    subst this
    rw [upd_same] at hp; cases hp
    exact .inl (Nat.le_refl _)
/-- an object is turned into another one -/
theorem Run.turn (hs : Sat σ E w) (n b cap : Nat) (o o' : AObj) (hn : E n = some o) (hb : σ n = some (b, cap)) (w' : World)
    (hos : w'.os = w.os ∧ w'.tape = w.tape ∧ w'.output = w.output) (hsz : w'.heap.size = w.heap.size) (hbl : ∀ k, k ≠ b → w'.heap[k]? = w.heap[k]?) (ho : ObjIs σ cap o' w'.heap[b]?) :
    Run σ w E c (· = n) c (upd E n (some o')) σ w' := by
  refine ⟨Nat.le_refl _, ⟨fun m x hx => ?_, fun m k x y p q h1 h2 hp hq e => ?_⟩, fun _ _ => rfl, ⟨hos.1, hos.2.1, hos.2.2, by omega, fun k _ hk => hbl k (fun e => hk n _ rfl hb (by rw [e]))⟩, fun m hm _ => upd_ne _ _ _ hm, fun m hm => .inl ⟨o, by rw [hm]; exact hn⟩, fun m p hm _ => by have := hm.1; have := hm.2; omega⟩
  · by_cases hmn : m = n
    · subst hmn
      rw [upd_same] at hx; cases hx
      exact ⟨b, cap, hb, ho⟩
    · rw [upd_ne _ _ _ hmn] at hx
      obtain ⟨b', cap', h1, h2⟩ := hs.obj m x hx
      refine ⟨b', cap', h1, ?_⟩
      rw [hbl b' (fun e => hmn (hs.inj m n x o (b', cap') (b, cap) hx hn h1 hb e))]
      exact h2
  · have f : ∀ m x, upd E n (some o') m = some x → ∃ y, E m = some y := fun m x h => by
      by_cases hmn : m = n
      · exact ⟨o, by rw [hmn]; exact hn⟩
      · rw [upd_ne _ _ _ hmn] at h; exact ⟨x, h⟩
    obtain ⟨x', hx'⟩ := f m x h1
    obtain ⟨y', hy'⟩ := f k y h2
    exact hs.inj m k x' y' p q hx' hy' hp hq e
theorem Run.stay (hs : Sat σ E w) : Run σ w E c (fun _ => False) c E σ w := Run.refl hs _ fun _ h => h.elim
theorem Sat.drew (hs : Sat σ E w) : Sat σ E w.drew := ⟨hs.obj, hs.inj⟩
/-- the world only asked the tape -/
theorem Run.asked (hs : Sat σ E w) : Run σ w E c (fun _ => False) c E σ w.drew :=
  ⟨Nat.le_refl _, hs.drew, fun _ _ => rfl, ⟨rfl, rfl, rfl, Nat.le_refl _, fun _ _ _ => rfl⟩, fun _ _ _ => rfl, fun _ h => h.elim, fun n p h _ => by have := h.1; have := h.2; omega⟩
end
end
end Go.Proofs.YtpcejpcbkjnlkaaGreatDoor.AE

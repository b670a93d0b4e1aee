/- A walk by computing: a call that is computed once, and told again. Conditions: none. A walk by computing: calls that are told by a contract proved by hand. Conditions: none. -/
import Derived.Test.YtpcejpcbkjnlkaaGreatDoorZa7
set_option linter.unusedVariables false
namespace Go.Proofs.YtpcejpcbkjnlkaaGreatDoor.AE
noncomputable section
open Go.RowKit

/-! ### sameness by computing -/
def eqAd (a b : Addr) : Bool := Nat.beq a.block b.block && Nat.beq a.off b.off && a.spot.isNone && b.spot.isNone
theorem eqAd_ok {a b : Addr} (h : eqAd a b = true) : a = b := by
  obtain ⟨x, y, z⟩ := a
  obtain ⟨x', y', z'⟩ := b
  simp only [eqAd, Bool.and_eq_true, Option.isNone_iff_eq_none] at h
  obtain ⟨⟨⟨h1, h2⟩, h3⟩, h4⟩ := h
  have h1 := Nat.eq_of_beq_eq_true h1
  have h2 := Nat.eq_of_beq_eq_true h2
  subst h1; subst h2; subst h3; subst h4
  rfl
def eqBytes : List UInt8 → List UInt8 → Bool
  | [], [] => true
  | a :: l, b :: m => Nat.beq a.toNat b.toNat && eqBytes l m
  | _, _ => false
theorem eqBytes_ok : ∀ {l m : List UInt8}, eqBytes l m = true → l = m
  | [], [], _ => rfl
  | [], _ :: _, h | _ :: _, [], h => by simp [eqBytes] at h
  | a :: l, b :: m, h => by
    simp only [eqBytes, Bool.and_eq_true] at h
    rw [eqBytes_ok h.2, UInt8.toNat_inj.1 (Nat.eq_of_beq_eq_true h.1)]
mutual
def eqV : Value → Value → Bool
  | .bool a, .bool b => a == b
  | .int k n, .int k' m => decide (k = k') && eqB n m
  | .string s, .string t => eqBytes s.data.toList t.data.toList
  | .pointer none, .pointer none => true
  | .pointer (some a), .pointer (some b) => eqAd a b
  | .slice none l c, .slice none l' c' => Nat.beq l l' && Nat.beq c c'
  | .slice (some a) l c, .slice (some b) l' c' => eqAd a b && Nat.beq l l' && Nat.beq c c'
  | .map none, .map none => true
  | .map (some a), .map (some b) => Nat.beq a b
  | .func (.func f) x y, .func (.func g) x' y' => Nat.beq f g && eqVA x x' && eqVA y y'
  | .nilFunc, .nilFunc => true
  | .nilIface, .nilIface => true
  | .iface t v, .iface t' v' => Nat.beq t t' && eqV v v'
  | .agg a, .agg b => eqVA a b
  | .tuple a, .tuple b => eqVA a b
  | _, _ => false
def eqVA : Array Value → Array Value → Bool
  | ⟨l⟩, ⟨m⟩ => eqVL l m
def eqVL : List Value → List Value → Bool
  | [], [] => true
  | a :: l, b :: m => eqV a b && eqVL l m
  | _, _ => false
end
mutual
theorem eqV_ok : ∀ (v u : Value), eqV v u = true → v = u := by
  intro v u h
  cases v <;> cases u <;> first | (simp only [eqV, Bool.false_eq_true] at h; done) | skip
  case bool.bool a b => simp only [eqV, beq_iff_eq] at h; rw [h]
  case int.int k n k' m =>
    simp only [eqV, Bool.and_eq_true, decide_eq_true_eq] at h
    rw [h.1]
    have := h.2
    rw [eqB_eq] at this
    rw [eq_of_beq this]
  case string.string s t =>
    simp only [eqV] at h
    have := eqBytes_ok h
    obtain ⟨⟨s⟩⟩ := s
    obtain ⟨⟨t⟩⟩ := t
    simp only at this
    rw [this]
  case pointer.pointer a b =>
    cases a <;> cases b <;> simp only [eqV, Bool.false_eq_true] at h
    · rfl
    · rw [eqAd_ok h]
  case slice.slice a l c b l' c' =>
    cases a <;> cases b <;> simp only [eqV, Bool.and_eq_true, Bool.false_eq_true] at h
    · rw [Nat.eq_of_beq_eq_true h.1, Nat.eq_of_beq_eq_true h.2]
    · rw [eqAd_ok h.1.1, Nat.eq_of_beq_eq_true h.1.2, Nat.eq_of_beq_eq_true h.2]
  case map.map a b =>
    cases a <;> cases b <;> simp only [eqV, Bool.false_eq_true] at h
    · rfl
    · rw [Nat.eq_of_beq_eq_true h]
  case func.func f x y g x' y' =>
    cases f <;> cases g <;> simp only [eqV, Bool.and_eq_true, Bool.false_eq_true] at h
    rw [Nat.eq_of_beq_eq_true h.1.1, eqVA_ok _ _ h.1.2, eqVA_ok _ _ h.2]
  case nilFunc.nilFunc => rfl
  case nilIface.nilIface => rfl
  case iface.iface t v t' v' =>
    simp only [eqV, Bool.and_eq_true] at h
    rw [Nat.eq_of_beq_eq_true h.1, eqV_ok _ _ h.2]
  case agg.agg a b => simp only [eqV] at h; rw [eqVA_ok _ _ h]
  case tuple.tuple a b => simp only [eqV] at h; rw [eqVA_ok _ _ h]
theorem eqVA_ok : ∀ (v u : Array Value), eqVA v u = true → v = u
  | ⟨l⟩, ⟨m⟩, h => by simp only [eqVA] at h; rw [eqVL_ok _ _ h]
theorem eqVL_ok : ∀ (v u : List Value), eqVL v u = true → v = u
  | [], [], _ => rfl
  | [], _ :: _, h | _ :: _, [], h => by simp [eqVL] at h
  | a :: l, b :: m, h => by
    simp only [eqVL, Bool.and_eq_true] at h
    rw [eqV_ok _ _ h.1, eqVL_ok _ _ h.2]
end
def eqON : Option Nat → Option Nat → Bool
  | none, none => true
  | some a, some b => Nat.beq a b
  | _, _ => false
theorem eqON_ok {a b : Option Nat} (h : eqON a b = true) : a = b := by
  cases a <;> cases b <;> simp only [eqON, Bool.false_eq_true] at h
  · rfl
  · rw [Nat.eq_of_beq_eq_true h]
def eqOV : Option Value → Option Value → Bool
  | none, none => true
  | some a, some b => eqV a b
  | _, _ => false
theorem eqOV_ok {a b : Option Value} (h : eqOV a b = true) : a = b := by
  cases a <;> cases b <;> simp only [eqOV, Bool.false_eq_true] at h
  · rfl
  · rw [eqV_ok _ _ h]
def eqT : T Value → T Value → Bool
  | .nil, .nil => true
  | .node l v r, .node l' v' r' => eqT l l' && eqOV v v' && eqT r r'
  | _, _ => false
theorem eqT_ok : ∀ (a b : T Value), eqT a b = true → a = b
  | .nil, .nil, _ => rfl
  | .nil, .node .., h | .node .., .nil, h => by simp [eqT] at h
  | .node l v r, .node l' v' r', h => by
    simp only [eqT, Bool.and_eq_true] at h
    rw [eqT_ok _ _ h.1.1, eqOV_ok h.1.2, eqT_ok _ _ h.2]
def eqEs : List AEntry → List AEntry → Bool
  | [], [] => true
  | a :: l, b :: m => eqV a.key b.key && eqV a.val b.val && Nat.beq a.born b.born && eqEs l m
  | _, _ => false
theorem eqEs_ok : ∀ (a b : List AEntry), eqEs a b = true → a = b
  | [], [], _ => rfl
  | [], _ :: _, h | _ :: _, [], h => by simp [eqEs] at h
  | ⟨k, v, n⟩ :: l, ⟨k', v', n'⟩ :: m, h => by
    simp only [eqEs, Bool.and_eq_true] at h
    obtain ⟨⟨⟨h1, h2⟩, h3⟩, h4⟩ := h
    rw [eqV_ok _ _ h1, eqV_ok _ _ h2, Nat.eq_of_beq_eq_true h3, eqEs_ok _ _ h4]
def eqO : AObj → AObj → Bool
  | .row n t d e s, .row n' t' d' e' s' => Nat.beq n n' && eqT t t' && eqOV d d' && Nat.beq e e' && eqON s s'
  | .map es c, .map es' c' => eqEs es es' && Nat.beq c c'
  | _, _ => false
theorem eqO_ok {a b : AObj} (h : eqO a b = true) : a = b := by
  cases a <;> cases b <;> simp only [eqO, Bool.and_eq_true, Bool.false_eq_true] at h
  · obtain ⟨⟨⟨⟨h1, h2⟩, h3⟩, h4⟩, h5⟩ := h
    rw [Nat.eq_of_beq_eq_true h1, eqT_ok _ _ h2, eqOV_ok h3, Nat.eq_of_beq_eq_true h4, eqON_ok h5]
  · rw [eqEs_ok _ _ h.1, Nat.eq_of_beq_eq_true h.2]
def isO (o : AObj) : Option AObj → Bool
  | some x => eqO x o
  | none => false
theorem isO_ok {o : AObj} {x : Option AObj} (h : isO o x = true) : x = some o := by
  cases x with
  | none => simp [isO] at h
  | some x => simp only [isO] at h; rw [eqO_ok h]

/-! ### a call that is told -/
structure Memo where
  f : FuncId
  args : List Value
  /-- what the call reads of the heap -/
  pre : List (Nat × AObj)
  c : Nat
  v : Value
  c' : Nat
  W : List Nat
  /-- what it leaves, of what it wrote and made -/
  post : List (Nat × AObj)
def Memo.heap (m : Memo) : T AObj := putSets .nil m.pre
def isIn (n : Nat) : List Nat → Bool
  | [] => false
  | a :: l => Nat.beq n a || isIn n l
theorem isIn_ok {n : Nat} : ∀ {l : List Nat}, isIn n l = true → n ∈ l
  | [], h => by simp [isIn] at h
  | a :: l, h => by
    simp only [isIn, Bool.or_eq_true] at h
    rcases h with h | h
    · rw [Nat.eq_of_beq_eq_true h]; simp
    · exact List.mem_cons_of_mem _ (isIn_ok h)
/-- the call has been computed on what it reads -/
def Memo.check (m : Memo) : Option Out → Bool
  | some out => eqV out.v m.v && Nat.beq out.c m.c' && out.R.all (fun n => isIn n (m.pre.map (·.1))) && out.W.all (fun n => isIn n m.W) && m.W.all (fun n => isIn n out.W) &&
      m.post.all (fun x => isO x.2 (out.H.get x.1) && (isIn x.1 m.W || (Nat.ble m.c x.1 && Nat.blt x.1 m.c'))) && m.pre.all (fun x => isO x.2 (m.heap.get x.1))
  | none => false
def Memo.new (m : Memo) : List Nat := List.range' m.c (m.c' - m.c)
def Memo.call (m : Memo) : CallFn := fun f args H c =>
  bif Nat.beq f m.f && Nat.beq c m.c && eqVL args m.args && m.pre.all (fun x => isO x.2 (H.get x.1)) && allLow m.c (m.pre.map (·.1)) && allLow m.c m.W && Nat.ble m.c m.c' then
    some ⟨m.v, putSets (putKills (putKills H m.W) m.new) m.post, m.c', m.pre.map (·.1), m.W⟩ else none
section
variable {P : Program} {G : Nat}
theorem Run.forget {σ σ' : Sig} {w w' : World} {E E1 E2 : Heap} {c c' : Nat} {W : Nat → Prop} (h : Run σ w E c W c' E1 σ' w') (h1 : ∀ n o, E2 n = some o → E1 n = some o) (h2 : ∀ n, ¬ W n → ¬ New c c' n → E2 n = E1 n) : Run σ w E c W c' E2 σ' w' :=
  ⟨h.le, ⟨fun n o ho => h.sat.obj n o (h1 n o ho), fun n m o o' p q a b => h.sat.inj n m o o' p q (h1 _ _ a) (h1 _ _ b)⟩, h.same, h.fr, fun n hw hn => (h2 n hw hn).trans (h.keep n hw hn), h.dom,
    fun n p hn hp => (h.new n p hn hp).imp id fun ⟨m, q, a, b, d, e, f⟩ => ⟨m, q, a, b, (by
      cases hm : E2 m with
      | none => rfl
      | some o => rw [h1 m o hm] at d; cases d), e, f⟩⟩
theorem putSets_mem : ∀ (l : List (Nat × AObj)) (E : Heap) (n : Nat) (o : AObj), applySets E l n = some o → (n, o) ∈ l ∨ (n ∉ l.map (·.1) ∧ E n = some o)
  | [], E, n, o, h => .inr ⟨by simp, h⟩
  | x :: l, E, n, o, h => by
    rcases putSets_mem l _ n o h with h1 | ⟨h1, h2⟩
    · exact .inl (List.mem_cons_of_mem _ h1)
    · by_cases hn : n = x.1
      · subst hn
        rw [upd_same] at h2
        cases h2
        exact .inl (by simp)
      · rw [upd_ne _ _ _ hn] at h2
        exact .inr ⟨by simp only [List.map_cons, List.mem_cons, not_or]; exact ⟨hn, h1⟩, h2⟩
theorem applyKills_mem : ∀ (l : List Nat) (E : Heap) (n : Nat), n ∈ l → applyKills E l n = none
  | [], _, _, h => by simp at h
  | m :: l, E, n, h => by
    by_cases hn : n ∈ l
    · exact applyKills_mem l _ n hn
    · have : n = m := by rcases List.mem_cons.1 h with h | h; exact h; exact absurd h hn
      subst this
      rw [applyKills, applyKills_out l _ n hn, upd_same]
theorem Memo.ok {m : Memo} {call : CallFn} (hc : CallsOk P G call) (h : m.check (call m.f m.args m.heap m.c) = true) : CallsOk P G m.call := by
  have split : ∀ f args H c out, m.call f args H c = some out → f = m.f ∧ c = m.c ∧ args = m.args ∧ (∀ x ∈ m.pre, H.get x.1 = some x.2) ∧ (∀ n ∈ m.pre.map (·.1), n < m.c) ∧ (∀ n ∈ m.W, n < m.c) ∧ m.c ≤ m.c' ∧ out = ⟨m.v, putSets (putKills (putKills H m.W) m.new) m.post, m.c', m.pre.map (·.1), m.W⟩ := fun f args H c out hout => by
    unfold Memo.call at hout
    cases hb : (Nat.beq f m.f && Nat.beq c m.c && eqVL args m.args && m.pre.all (fun x => isO x.2 (H.get x.1)) && allLow m.c (m.pre.map (·.1)) && allLow m.c m.W && Nat.ble m.c m.c') with
    | false => rw [hb] at hout; cases hout
    | true =>
      rw [hb, cond_true] at hout
      simp only [Bool.and_eq_true] at hb
      obtain ⟨⟨⟨⟨⟨⟨b1, b2⟩, b3⟩, b4⟩, b5⟩, b6⟩, b7⟩ := hb
      cases hout
      exact ⟨Nat.eq_of_beq_eq_true b1, Nat.eq_of_beq_eq_true b2, eqVL_ok _ _ b3, fun x hx => isO_ok (List.all_eq_true.1 b4 x hx), fun n hn => allLow_mem b5 hn, fun n hn => allLow_mem b6 hn, Nat.le_of_ble_eq_true b7, rfl⟩
  have hpost : ∀ H : T AObj, (putSets (putKills (putKills H m.W) m.new) m.post).get = applySets (applyKills (applyKills H.get m.W) m.new) m.post := fun H => by rw [putSets_get, putKills_get, putKills_get]
  have hnew : m.c ≤ m.c' → ∀ n, n ∈ m.new ↔ (m.c ≤ n ∧ n < m.c') := fun hle n => by
    unfold Memo.new
    rw [List.mem_range'_1]
    omega
  unfold Memo.check at h
  split at h
  case h_2 => cases h
  rename_i o ho
  simp only [Bool.and_eq_true] at h
  obtain ⟨⟨⟨⟨⟨⟨k1, k2⟩, k3⟩, k4⟩, k5⟩, k6⟩, k7⟩ := h
  have k7 : ∀ x ∈ m.pre, m.heap.get x.1 = some x.2 := fun x hx => isO_ok (List.all_eq_true.1 k7 x hx)
  have k1 := eqV_ok _ _ k1
  have k2 := Nat.eq_of_beq_eq_true k2
  have k3 : ∀ n ∈ o.R, n ∈ m.pre.map (·.1) := fun n hn => isIn_ok (List.all_eq_true.1 k3 n hn)
  have k4 : ∀ n ∈ o.W, n ∈ m.W := fun n hn => isIn_ok (List.all_eq_true.1 k4 n hn)
  have k5 : ∀ n ∈ m.W, n ∈ o.W := fun n hn => isIn_ok (List.all_eq_true.1 k5 n hn)
  have k6 : ∀ x ∈ m.post, o.H.get x.1 = some x.2 ∧ (x.1 ∈ m.W ∨ (m.c ≤ x.1 ∧ x.1 < m.c')) := fun x hx => by
    have := List.all_eq_true.1 k6 x hx
    simp only [Bool.and_eq_true, Bool.or_eq_true] at this
    refine ⟨isO_ok this.1, this.2.imp isIn_ok fun ⟨a, b⟩ => ⟨Nat.le_of_ble_eq_true a, blt_lt b⟩⟩
  refine ⟨fun f args H c out hout => ?_, fun f args H c out hout => ?_⟩
  · obtain ⟨rfl, rfl, rfl, h1, h2, h3, h4, rfl⟩ := split f args H c out hout
    refine ⟨h4, h3, h2, fun n hn hne => ?_⟩
    rw [hpost, applySets_out _ _ _ (fun e => ?_), applyKills_out _ _ _ (fun e => hne ((hnew h4 n).1 e)), applyKills_out _ _ _ hn]
    obtain ⟨x, hx, rfl⟩ := List.mem_map.1 e
    rcases (k6 x hx).2 with h5 | h5
    · exact hn h5
    · exact hne h5
  · obtain ⟨rfl, rfl, rfl, h1, h2, h3, h4, rfl⟩ := split f args H c out hout
    intro σ w E args' hs hf hr hargs hg
    have hheap : ∀ n ∈ m.pre.map (·.1), m.heap.get n = H.get n := fun n hn => by
      obtain ⟨x, hx, rfl⟩ := List.mem_map.1 hn
      rw [h1 x hx, k7 x hx]
    have hcall := hc.ok _ _ _ _ _ ho σ w E args' hs (by rw [k2]; exact hf) (fun n hn => by
      have h5 := k3 n hn
      rw [hheap n h5]; exact hr n h5) hargs hg
    refine Calls.mono hcall fun e w' he => ?_
    obtain ⟨σ', v', rfl, q1, q2⟩ := he
    refine ⟨σ', v', rfl, by rw [← k1]; exact q1, ?_⟩
    rw [k2] at q2
    have q3 := q2.drop hf (fun n hn => .inl (k4 n hn)) (fun n hn => k5 n hn)
    refine q3.forget (fun n x hx => ?_) (fun n hn hne => ?_)
    · by_cases hin : n ∈ m.W ∨ (m.c ≤ n ∧ n < m.c')
      · have hin' : n ∈ o.W ∨ (m.c ≤ n ∧ n < m.c') := hin.imp (k5 n) id
        rw [mix_in hin, hpost] at hx
        rw [mix_in hin']
        rcases putSets_mem _ _ _ _ hx with h5 | ⟨h5, h6⟩
        · exact (k6 _ h5).1
        · exfalso
          by_cases hw : n ∈ m.new
          · rw [applyKills_mem _ _ _ hw] at h6; cases h6
          · rw [applyKills_out _ _ _ hw] at h6
            have hW : n ∈ m.W := hin.resolve_right fun e => hw ((hnew h4 n).2 e)
            rw [applyKills_mem _ _ _ hW] at h6; cases h6
      · have hin' : ¬ (n ∈ o.W ∨ (m.c ≤ n ∧ n < m.c')) := fun e => hin (e.imp (k4 n) id)
        rw [mix_out hin] at hx
        rw [mix_out hin']; exact hx
    · have hin : ¬ (n ∈ m.W ∨ (m.c ≤ n ∧ n < m.c')) := fun e => e.elim hn hne
      have hin' : ¬ (n ∈ o.W ∨ (m.c ≤ n ∧ n < m.c')) := fun e => hin (e.imp (k4 n) id)
      rw [mix_out hin, mix_out hin']
/-- two ways to tell calls -/
def orCall (a b : CallFn) : CallFn := fun f args H c => match a f args H c with | some o => some o | none => b f args H c
theorem orCall_ok {a b : CallFn} (ha : CallsOk P G a) (hb : CallsOk P G b) : CallsOk P G (orCall a b) := by
  have split : ∀ f args H c out, orCall a b f args H c = some out → a f args H c = some out ∨ b f args H c = some out := fun f args H c out h => by
    unfold orCall at h
    split at h
    · rename_i o ho; cases h; exact .inl ho
    · exact .inr h
  exact ⟨fun f args H c out h => (split f args H c out h).elim (ha.tidy f args H c out) (hb.tidy f args H c out), fun f args H c out h => (split f args H c out h).elim (ha.ok f args H c out) (hb.ok f args H c out)⟩
end
end
end Go.Proofs.YtpcejpcbkjnlkaaGreatDoor.AE

namespace Go.Proofs.YtpcejpcbkjnlkaaGreatDoor.AE
noncomputable section
open Go.RowKit

/-! ### runs from what lies below -/
section
variable {P : Program} {G : Nat} {σ : Sig} {w w' : World} {E : Heap} {c : Nat}
theorem Sat.below (hs : Sat σ E w) (hb : Below w.heap.size w w') : Sat σ E w' :=
  ⟨fun n o h => by
    obtain ⟨b, cap, h1, h2⟩ := hs.obj n o h
    obtain ⟨p, hp, hlt⟩ := (hs.obj n o h).lt
    rw [h1] at hp
    cases hp
    exact ⟨b, cap, h1, by rw [hb.block b hlt]; exact h2⟩, hs.inj⟩
theorem Run.of_below (hs : Sat σ E w) (hb : Below w.heap.size w w') : Run σ w E c (fun _ => False) c E σ w' :=
  ⟨Nat.le_refl _, hs.below hb, fun _ _ => rfl, ⟨hb.os, hb.tape, hb.output, hb.size, fun b h _ => hb.block b h⟩, fun _ _ _ => rfl, fun _ h => h.elim, fun n p hn _ => by have := hn.1; have := hn.2; omega⟩
/-- a new object in block g -/
theorem Run.made (hs : Sat σ E w) (hf : Fresh σ c (c + 1)) (hb : Below w.heap.size w w') {g : Nat} (hg : w.heap.size ≤ g) (o : AObj) (cap : Nat) (ho : ∀ σ', Ext σ σ' → ObjIs σ' cap o w'.heap[g]?) :
    Run σ w E c (fun _ => False) (c + 1) (upd E c (some o)) (upd σ c (some (g, cap))) w' := by
  have hc : σ c = none := hf c ⟨Nat.le_refl _, Nat.lt_succ_self _⟩
  have hE : E c = none := by
    cases h : E c with
    | none => rfl
    | some o' => obtain ⟨p, hp, _⟩ := (hs.obj c o' h).lt; rw [hc] at hp; cases hp
  have hx : Ext σ (upd σ c (some (g, cap))) := fun n p hp => by
    by_cases hn : n = c
    · subst hn; rw [hc] at hp; cases hp
    · rw [upd_ne _ _ _ hn]; exact hp
  have old : ∀ n o', E n = some o' → n ≠ c ∧ ∃ p, σ n = some p ∧ p.1 < w.heap.size := fun n o' h => ⟨(fun e => by rw [e, hE] at h; cases h), (hs.obj n o' h).lt⟩
  refine ⟨Nat.le_succ _, ⟨fun n o' h => ?_, fun n m o1 o2 p q h1 h2 hp hq e => ?_⟩, fun n hn => upd_ne _ _ _ (fun e => hn ⟨by omega, by omega⟩), ⟨hb.os, hb.tape, hb.output, hb.size, fun b hlt _ => hb.block b hlt⟩, fun n _ hn => upd_ne _ _ _ (fun e => hn ⟨by omega, by omega⟩), fun n h => h.elim, fun n p hn hp => ?_⟩
  · by_cases hn : n = c
    · subst hn
      rw [upd_same] at h
      cases h
      exact ⟨g, cap, upd_same _ _ _, ho _ hx⟩
    · rw [upd_ne _ _ _ hn] at h
      obtain ⟨b, cap', h1, h2⟩ := hs.obj n o' h
      obtain ⟨_, p, hp, hlt⟩ := old n o' h
      rw [h1] at hp; cases hp
      exact ⟨b, cap', hx _ _ h1, by rw [hb.block b hlt]; exact h2.ext hx⟩
  · by_cases hn : n = c
    · by_cases hm : m = c
      · rw [hn, hm]
      · subst hn
        rw [upd_same] at hp; cases hp
        rw [upd_ne _ _ _ hm] at h2 hq
        obtain ⟨_, p, hp, hlt⟩ := old m o2 h2
        rw [hq] at hp; cases hp
        simp only at e; omega
    · by_cases hm : m = c
      · subst hm
        rw [upd_same] at hq; cases hq
        rw [upd_ne _ _ _ hn] at h1 hp
        obtain ⟨_, p', hp', hlt⟩ := old n o1 h1
        rw [hp] at hp'; cases hp'
        simp only at e; omega
      · rw [upd_ne _ _ _ hn] at h1 hp
        rw [upd_ne _ _ _ hm] at h2 hq
        exact hs.inj n m o1 o2 p q h1 h2 hp hq e
  · have := New.one hn
    subst this
    rw [upd_same] at hp; cases hp
    exact .inl hg
end

/-! ### told calls -/
section
variable {P : Program} {G : Nat}
theorem mix_none (c : Nat) (H E : Heap) : mix [] c c H E = E := funext fun n => mix_out (fun h => h.elim (fun h => by cases h) (fun h => by omega))
/-- a call that only reads -/
theorem CallOk.quiet {f : FuncId} {args : List Value} {H : T AObj} {c : Nat} {v : Value} {R : List Nat}
    (h : ∀ (σ : Sig) (w : World) (E : Heap) (args' : List Value), Sat σ E w → (∀ n ∈ R, E n = H.get n) → concL σ args = some args' → ∃ v', conc σ v = some v' ∧ Calls P f args'.toArray w fun e w' => e = .returned v' ∧ Below w.heap.size w w') :
    CallOk P G f args H c ⟨v, H, c, R, []⟩ := by
  intro σ w E args' hs _ hr ha _
  obtain ⟨v', h1, h2⟩ := h σ w E args' hs hr ha
  refine Calls.mono h2 fun e w' ⟨he, hb⟩ => ⟨σ, v', he, h1, ?_⟩
  rw [mix_none]
  exact (Run.of_below hs hb).drop (fun n hn => by have := hn.1; have := hn.2; omega) (fun n hn => hn.elim) (fun n hn => by simp at hn)
/-- a call that makes one object -/
theorem CallOk.makes {f : FuncId} {args : List Value} {H : T AObj} {c : Nat} {v : Value} {R : List Nat} {o : AObj}
    (h : ∀ (σ : Sig) (w : World) (E : Heap) (args' : List Value), Sat σ E w → Fresh σ c (c + 1) → (∀ n ∈ R, E n = H.get n) → concL σ args = some args' → Calls P f args'.toArray w fun e w' => ∃ g cap v', e = .returned v' ∧ w.heap.size ≤ g ∧ conc (upd σ c (some (g, cap))) v = some v' ∧ (∀ σ', Ext σ σ' → ObjIs σ' cap o w'.heap[g]?) ∧ Below w.heap.size w w') :
    CallOk P G f args H c ⟨v, H.put c (some o), c + 1, R, []⟩ := by
  intro σ w E args' hs hf hr ha _
  refine Calls.mono (h σ w E args' hs hf hr ha) fun e w' ⟨g, cap, v', he, hg, hv, ho, hb⟩ => ⟨upd σ c (some (g, cap)), v', he, hv, ?_⟩
  have hm : mix [] c (c + 1) (H.put c (some o)).get E = upd E c (some o) := by
    funext n
    rw [T.get_put']
    by_cases hn : n = c
    · subst hn
      rw [mix_in (.inr ⟨Nat.le_refl _, Nat.lt_succ_self _⟩), upd_same, upd_same]
    · rw [mix_out (by simp; omega), upd_ne _ _ _ hn]
  show Run σ w E c (· ∈ []) (c + 1) (mix [] c (c + 1) (H.put c (some o)).get E) _ w'
  rw [hm]
  exact (Run.made hs hf hb hg o cap ho).drop hf (fun n hn => hn.elim) (fun n hn => by simp at hn)
theorem tidy_quiet {H : T AObj} {c : Nat} {v : Value} {R : List Nat} (hR : ∀ n ∈ R, n < c) : Tidy H c ⟨v, H, c, R, []⟩ := ⟨Nat.le_refl _, fun n hn => by simp at hn, hR, fun _ _ _ => rfl⟩
theorem tidy_makes {H : T AObj} {c : Nat} {v : Value} {R : List Nat} {o : AObj} (hR : ∀ n ∈ R, n < c) : Tidy H c ⟨v, H.put c (some o), c + 1, R, []⟩ :=
  ⟨Nat.le_succ _, fun n hn => by simp at hn, hR, fun n _ hn => by rw [T.get_put, if_neg]; intro e; subst e; exact hn ⟨Nat.le_refl _, Nat.lt_succ_self _⟩⟩
end

/-! ### a long row of words -/
def T.allV (p : Value → Bool) : T Value → Bool
  | .nil => true
  | .node l v r => T.allV p l && (match v with | some x => p x | none => true) && T.allV p r
theorem T.allV_getP {p : Value → Bool} : ∀ (q : List Bool) (t : T Value) (v : Value), T.allV p t = true → T.getP q t = some v → p v = true
  | [], .nil, v, _, h => by cases h
  | [], .node l u r, v, ha, h => by
    have h : u = some v := h
    subst h
    simp only [T.allV, Bool.and_eq_true] at ha
    exact ha.1.2
  | b :: q, .nil, v, _, h => by rw [T.getP_nil] at h; cases h
  | b :: q, .node l u r, v, ha, h => by
    simp only [T.allV, Bool.and_eq_true] at ha
    have h : T.down b (T.getP q) (.node l u r) = some v := h
    cases b
    · exact T.allV_getP q r v ha.2 h
    · exact T.allV_getP q l v ha.1.1 h
def wordV : Value → Bool
  | .int .i64 n => !ltB n (-2147483648) && !ltB 2147483647 n
  | _ => false
theorem wordV_ok {v : Value} (h : wordV v = true) : ∃ n : Int, v = .int .i64 n ∧ -2147483648 ≤ n ∧ n ≤ 2147483647 := by
  cases v with
  | int k n =>
    cases k <;> first | (simp [wordV] at h; done) | skip
    simp only [wordV, ltB_eq, Bool.and_eq_true, Bool.not_eq_true', decide_eq_false_iff_not] at h
    exact ⟨n, rfl, by omega, by omega⟩
  | _ => simp [wordV] at h
/-- the words of a row -/
theorem row_words {σ : Sig} {w : World} {n len : Nat} {t : T Value} {d : Value} {e : TypeId} {sp : Option Nat} {p : Nat × Nat} (h : At σ w n (.row len t (some d) e sp)) (hp : σ n = some p) (hd : wordV d = true) (ht : T.allV wordV t = true) (i : Nat) (hi : i < len) :
    ∃ x : Int, w.cell? ⟨p.1, i, none⟩ = some (.int .i64 x) ∧ -2147483648 ≤ x ∧ x ≤ 2147483647 := by
  obtain ⟨C, fr, h1, _, _, _, h5⟩ := h.row hp
  have hv : ∃ v, cellAt len t (some d) i = some v ∧ wordV v = true := by
    unfold cellAt
    have : Nat.blt i len = true := by simpa using hi
    rw [this, cond_true]
    cases e : t.get i with
    | none => exact ⟨d, rfl, hd⟩
    | some v => exact ⟨v, rfl, T.allV_getP _ _ _ ht e⟩
  obtain ⟨v, hv1, hv2⟩ := hv
  obtain ⟨x, rfl, hx1, hx2⟩ := wordV_ok hv2
  obtain ⟨v', hc, hi'⟩ := h5 i _ hv1
  simp only [conc, Option.some.injEq] at hc
  subst hc
  exact ⟨x, by rw [cell_row h1]; exact hi', hx1, hx2⟩

/-! ### three told calls; their contracts come from the program -/
theorem conc_at {σ : Sig} {w : World} {E : Heap} (hs : Sat σ E w) {n : Nat} {o : AObj} (h : E n = some o) {p : Nat × Nat} (hp : σ n = some p) : At σ w n o ∧ p.1 < w.heap.size := by
  have ha := hs.obj n o h
  obtain ⟨q, hq, hlt⟩ := ha.lt
  rw [hp] at hq
  cases hq
  exact ⟨ha, hlt⟩
theorem concA_nil (σ : Sig) : concA σ #[] = some #[] := by simp [concA, concL]
/-- ContainsFunc with 'no word' over a long row of words -/
def toldContains (fC fP : Nat) : CallFn := fun f args H c =>
  bif Nat.beq f fC then
    match args with
    | [.slice (some ⟨n, 0, none⟩) l _, .func (.func g) ⟨[]⟩ ⟨[]⟩] =>
      match H.get n with
      | some (.row len t (some d) _ _) =>
        bif Nat.beq g fP && Nat.blt n c && Nat.ble l len && Nat.ble l 1000000000 && wordV d && T.allV wordV t then some ⟨.bool false, H, c, [n], []⟩ else none
      | _ => none
    | _ => none
  else none
theorem toldContains_ok {P : Program} {G : Nat} {fC fP : Nat}
    (hC : ∀ (w : World) (ad : Addr) (n k : Nat), n ≤ 9223372036854775807 → (∀ i, i < n → ∃ x : Int, w.cell? (ad.add i) = some (.int .i64 x) ∧ -2147483648 ≤ x ∧ x ≤ 2147483647) →
      Calls P fC #[.slice (some ad) n k, .func (.func fP) #[] #[]] w fun e w' => e = .returned (.bool false) ∧ w = w') : CallsOk P G (toldContains fC fP) := by
  have split : ∀ f args H c out, toldContains fC fP f args H c = some out → f = fC ∧ ∃ n l k len t d e sp, args = [.slice (some ⟨n, 0, none⟩) l k, .func (.func fP) #[] #[]] ∧ H.get n = some (.row len t (some d) e sp) ∧ n < c ∧ l ≤ len ∧ l ≤ 1000000000 ∧ wordV d = true ∧ T.allV wordV t = true ∧ out = ⟨.bool false, H, c, [n], []⟩ := by
    intro f args H c out h
    unfold toldContains at h
    cases hf : Nat.beq f fC with
    | false => rw [hf, cond_false] at h; cases h
    | true =>
      rw [hf, cond_true] at h
      split at h
      case h_2 => cases h
      rename_i n l k g
      split at h
      case h_2 => cases h
      rename_i len t d e sp hH
      cases hb : (Nat.beq g fP && Nat.blt n c && Nat.ble l len && Nat.ble l 1000000000 && wordV d && T.allV wordV t) with
      | false => rw [hb, cond_false] at h; cases h
      | true =>
        rw [hb, cond_true] at h
        cases h
        simp only [Bool.and_eq_true] at hb
        obtain ⟨⟨⟨⟨⟨b1, b2⟩, b3⟩, b4⟩, b5⟩, b6⟩ := hb
        have := Nat.eq_of_beq_eq_true b1
        subst this
        exact ⟨Nat.eq_of_beq_eq_true hf, n, l, k, len, t, d, e, sp, rfl, hH, blt_lt b2, Nat.le_of_ble_eq_true b3, Nat.le_of_ble_eq_true b4, b5, b6, rfl⟩
  refine ⟨fun f args H c out h => ?_, fun f args H c out h => ?_⟩
  · obtain ⟨rfl, n, l, k, len, t, d, e, sp, rfl, h1, h2, h3, h4, h5, h6, rfl⟩ := split f args H c out h
    exact tidy_quiet fun m hm => by rw [List.mem_singleton.1 hm]; exact h2
  · obtain ⟨rfl, n, l, k, len, t, d, e, sp, rfl, h1, h2, h3, h4, h5, h6, rfl⟩ := split f args H c out h
    refine CallOk.quiet fun σ w E args' hs hr ha => ⟨.bool false, by simp [conc], ?_⟩
    have hE := (hr n (by simp)).trans h1
    simp only [concL] at ha
    split at ha
    case h_2 => cases ha
    rename_i v1 l1 hv1 hl1
    cases ha
    obtain ⟨p, hp, rfl⟩ := conc_slice hv1
    split at hl1
    case h_2 => cases hl1
    rename_i v2 l2 hv2 hl2
    cases hl1
    cases hl2
    obtain ⟨x', y', hx, hy, rfl⟩ := conc_func hv2
    rw [concA_nil] at hx hy
    cases hx
    cases hy
    obtain ⟨hat, _⟩ := conc_at hs hE hp
    refine Calls.mono (hC w ⟨p.1, 0, none⟩ l _ (by omega) fun i hi => ?_) fun e w' ⟨he, hw⟩ => ⟨he, by rw [hw]; exact Below.refl _ _⟩
    obtain ⟨x, hc, hx1, hx2⟩ := row_words hat hp h5 h6 i (by omega)
    exact ⟨x, by rw [Addr.add_lit, Nat.zero_add]; exact hc, hx1, hx2⟩
/-- AppendSeq of the values of an empty list -/
def toldSeq (fS fV : Nat) : CallFn := fun f args H c =>
  bif Nat.beq f fS then
    match args with
    | [.slice a l k, .func (.func g) ⟨[]⟩ ⟨[.pointer (some ⟨n, 0, none⟩)]⟩] =>
      match H.get n with
      | some (.row len t d _ _) => match cellAt len t d 0 with
        | some (.slice _ 0 _) => bif Nat.beq g fV && Nat.blt n c then some ⟨.slice a l k, H, c, [n], []⟩ else none
        | _ => none
      | _ => none
    | _ => none
  else none
theorem toldSeq_ok {P : Program} {G : Nat} {fS fV : Nat}
    (hC : ∀ (w : World) (a : Option Addr) (l k b : Nat) (A : Option Addr) (C : Nat), b < w.heap.size → w.cell? ⟨b, 0, none⟩ = some (.slice A 0 C) →
      Calls P fS #[.slice a l k, .func (.func fV) #[] #[.pointer (some ⟨b, 0, none⟩)]] w fun e w' => e = .returned (.slice a l k) ∧ Below w.heap.size w w') : CallsOk P G (toldSeq fS fV) := by
  have split : ∀ f args H c out, toldSeq fS fV f args H c = some out → f = fS ∧ ∃ a l k n len t d e sp A C, args = [.slice a l k, .func (.func fV) #[] #[.pointer (some ⟨n, 0, none⟩)]] ∧ H.get n = some (.row len t d e sp) ∧ cellAt len t d 0 = some (.slice A 0 C) ∧ n < c ∧ out = ⟨.slice a l k, H, c, [n], []⟩ := by
    intro f args H c out h
    unfold toldSeq at h
    cases hf : Nat.beq f fS with
    | false => rw [hf, cond_false] at h; cases h
    | true =>
      rw [hf, cond_true] at h
      split at h
      case h_2 => cases h
      rename_i a l k g n
      split at h
      case h_2 => cases h
      rename_i len t d e sp hH
      split at h
      case h_2 => cases h
      rename_i A C hcell
      cases hb : (Nat.beq g fV && Nat.blt n c) with
      | false => rw [hb, cond_false] at h; cases h
      | true =>
        rw [hb, cond_true] at h
        cases h
        simp only [Bool.and_eq_true] at hb
        have := Nat.eq_of_beq_eq_true hb.1
        subst this
        exact ⟨Nat.eq_of_beq_eq_true hf, a, l, k, n, len, t, d, e, sp, A, C, rfl, hH, hcell, blt_lt hb.2, rfl⟩
  refine ⟨fun f args H c out h => ?_, fun f args H c out h => ?_⟩
  · obtain ⟨rfl, a, l, k, n, len, t, d, e, sp, A, C, rfl, h1, h2, h3, rfl⟩ := split f args H c out h
    exact tidy_quiet fun m hm => by rw [List.mem_singleton.1 hm]; exact h3
  · obtain ⟨rfl, a, l, k, n, len, t, d, e, sp, A, C, rfl, h1, h2, h3, rfl⟩ := split f args H c out h
    refine CallOk.quiet fun σ w E args' hs hr ha => ?_
    have hE := (hr n (by simp)).trans h1
    simp only [concL] at ha
    split at ha
    case h_2 => cases ha
    rename_i v1 l1 hv1 hl1
    cases ha
    obtain ⟨a', k', rfl⟩ := conc_slice' hv1
    split at hl1
    case h_2 => cases hl1
    rename_i v2 l2 hv2 hl2
    cases hl1
    cases hl2
    obtain ⟨x', y', hx, hy, rfl⟩ := conc_func hv2
    rw [concA_nil] at hx
    cases hx
    simp only [concA, concL] at hy
    split at hy
    case h_2 => cases hy
    rename_i l3 hl3
    cases hy
    split at hl3
    case h_2 => cases hl3
    rename_i v4 l4 hv4 hl4
    cases hl3
    cases hl4
    obtain ⟨p, hp, rfl⟩ := conc_ptr hv4
    obtain ⟨hat, hlt⟩ := conc_at hs hE hp
    obtain ⟨Cs, fr, q1, _, _, _, q5⟩ := hat.row hp
    obtain ⟨u, hu, hi⟩ := q5 0 _ h2
    obtain ⟨A', C', rfl⟩ := conc_slice' hu
    exact ⟨_, hv1, hC w a' l k' p.1 A' C' hlt (by rw [cell_row q1]; exact hi)⟩
/-- laid: a value without dimensions -/
def toldLaid (fL tI : Nat) : CallFn := fun f args H c =>
  bif Nat.beq f fL then
    match args with
    | [.slice none 0 0, .slice none 0 0, .int .i64 b, .int .i64 s] => some ⟨.agg #[.slice none 0 0, .int .i64 b, .int .i64 s, .slice (some ⟨c, 0, none⟩) 0 0, .string .empty], H.put c (some (.row 0 .nil (some (.int .i64 0)) tI none)), c + 1, [], []⟩
    | _ => none
  else none
theorem toldLaid_ok {P : Program} {G : Nat} {fL tI : Nat}
    (hC : ∀ (w : World) (b s : Int), Calls P fL #[.slice none 0 0, .slice none 0 0, .int .i64 b, .int .i64 s] w fun e w' => ∃ g, w.heap.size ≤ g ∧
      e = .returned (.agg #[.slice none 0 0, .int .i64 b, .int .i64 s, .slice (some ⟨g, 0, none⟩) 0 0, .string .empty]) ∧ w'.heap[g]? = some (.cells #[] tI (0, 0)) ∧ Below w.heap.size w w') : CallsOk P G (toldLaid fL tI) := by
  have split : ∀ f args H c out, toldLaid fL tI f args H c = some out → f = fL ∧ ∃ b s, args = [.slice none 0 0, .slice none 0 0, .int .i64 b, .int .i64 s] ∧ out = ⟨.agg #[.slice none 0 0, .int .i64 b, .int .i64 s, .slice (some ⟨c, 0, none⟩) 0 0, .string .empty], H.put c (some (.row 0 .nil (some (.int .i64 0)) tI none)), c + 1, [], []⟩ := by
    intro f args H c out h
    unfold toldLaid at h
    cases hf : Nat.beq f fL with
    | false => rw [hf, cond_false] at h; cases h
    | true =>
      rw [hf, cond_true] at h
      split at h
      case h_2 => cases h
      rename_i b s
      cases h
      exact ⟨Nat.eq_of_beq_eq_true hf, b, s, rfl, rfl⟩
  refine ⟨fun f args H c out h => ?_, fun f args H c out h => ?_⟩
  · obtain ⟨rfl, b, s, rfl, rfl⟩ := split f args H c out h
    exact tidy_makes fun m hm => by simp at hm
  · obtain ⟨rfl, b, s, rfl, rfl⟩ := split f args H c out h
    refine CallOk.makes fun σ w E args' hs hf hr ha => ?_
    have : args' = [.slice none 0 0, .slice none 0 0, .int .i64 b, .int .i64 s] := by
      simp only [concL, conc] at ha
      cases ha
      rfl
    subst this
    refine Calls.mono (hC w b s) fun e w' ⟨g, hg, he, hcell, hb⟩ => ⟨g, 0, _, he, hg, ?_, fun σ' _ => ?_, hb⟩
    · simp [conc, concA, concL, upd_same, BIG]
    · refine ⟨#[], (0, 0), hcell, Nat.le_refl _, fun i hi => by simp at hi, rfl, fun i v hv => ?_⟩
      have := cellAt_lt hv
      omega
/-- a row given by its cells -/
noncomputable def tOf (l : List (Nat × Value)) : T Value :=
  List.rec (motive := fun _ => T Value → T Value) (fun t => t) (fun x _ ih t => (T.put t x.1 (some x.2)).seq ih) l .nil
def isTrue (o : Option Out) : Bool := match o with | some ⟨.bool b, _, _, _, _⟩ => b | _ => false
theorem isTrue_ok {o : Option Out} (h : isTrue o = true) : ∃ H' c' R W, o = some ⟨.bool true, H', c', R, W⟩ := by
  unfold isTrue at h
  split at h
  · subst h; exact ⟨_, _, _, _, rfl⟩
  · cases h
end
end Go.Proofs.YtpcejpcbkjnlkaaGreatDoor.AE

/- A region that draws its order, whose last operation waits for all others: the others are walked under a condition on the world, the last one behind them. -/
import Derived.OrdersHeld
import Derived.StillTail
import Derived.Deep.RegionHeld3
set_option linter.unusedVariables false
namespace Go.Proofs.YtpcejpcbkjnlkaaGreatDoor

/-- the last operation is made one that is never wanted -/
def offLast : List Oper → Nat → List Oper
  | [], _ => []
  | [o], n => [{ o with dst := none, guard := some (n, true) }]
  | o :: p :: l, n => o :: offLast (p :: l) n
theorem offLast_get (n : Nat) : ∀ (l : List Oper) (i : Nat), (offLast l n)[i]? = (l[i]?).map fun o => if i + 1 = l.length then { o with dst := none, guard := some (n, true) } else o
  | [], i => by simp [offLast]
  | [o], i => by cases i <;> simp [offLast]
  | o :: p :: l, i => by
    cases i with
    | zero => simp [offLast]
    | succ i => simp only [offLast, List.getElem?_cons_succ, offLast_get n (p :: l) i, List.length_cons, Nat.add_right_cancel_iff]
theorem offLast_length (n : Nat) : ∀ l : List Oper, (offLast l n).length = l.length
  | [] => rfl
  | [_] => rfl
  | o :: p :: l => by simp [offLast, offLast_length n (p :: l)]
theorem offLast_at {l : List Oper} {n : Nat} (hl : l.length = n + 1) : (offLast l n)[n]? = (l[n]?).map fun o => { o with dst := none, guard := some (n, true) } := by
  rw [offLast_get]
  congr 1
  funext o
  rw [if_pos hl.symm]
theorem offLast_lt {l : List Oper} {n i : Nat} (hl : l.length = n + 1) (hi : i < n) : (offLast l n)[i]? = l[i]? := by
  rw [offLast_get]
  cases l[i]? with
  | none => rfl
  | some o => simp only [Option.map_some]; rw [if_neg (by omega)]
def postLast (P : Program) (ops : Array Oper) (Q : Exit → Act → World → Prop) (n : Nat) : Exit → Act → World → Prop
  | .normal, a, w => wpOp P ops Q n (Q .normal) a w
  | e, a, w => Q e a w
def lastB (md : Region.Mode) (l : List Oper) (n : Nat) : Bool :=
  decide (l.length = n + 1) && (List.range n).all (fun i => Region.waitsFor md l.toArray n i) &&
  l.all (fun o => match o.guard with | some (j, _) => decide (j < n) | none => true) &&
  (List.range (n + 1)).all (fun j => match l[j]? with | some o => o.after.all (fun e => !Region.binds md e || decide (e.on < j)) | none => true)

section
variable {P : Program} {md : Region.Mode} {l : List Oper} {n : Nat} {Q : Exit → Act → World → Prop}
theorem off_ready (listed : Array Bool) : Region.ready md (offLast l n).toArray listed = Region.ready md l.toArray listed := by
  unfold Region.ready
  simp only [List.size_toArray, offLast_length, List.getElem?_toArray]
  congr 1
  funext i
  rw [offLast_get]
  cases l[i]? with
  | none => rfl
  | some o => simp only [Option.map_some]; split <;> rfl
theorem off_yielded (hl : l.length = n + 1) (tmps : Array Value) {j : Nat} (hj : j < n) : yielded (offLast l n).toArray tmps j = yielded l.toArray tmps j := by
  unfold yielded
  simp only [List.getElem?_toArray, offLast_get]
  cases l[j]? with
  | none => rfl
  | some o => simp only [Option.map_some]; rw [if_neg (by omega)]
theorem wp_change {o : Oper} {a : Act} {w : World} {K K' : Act → World → Prop} {Q2 : Exit → Act → World → Prop} (hK : ∀ a w, K a w → K' a w) (hp : ∀ c a w, Q2 (.panic c) a w → Q (.panic c) a w) (ho : LetsOut Q2 → LetsOut Q)
    (h : o.wp P a w K Q2) : o.wp P a w K' Q := by
  unfold Oper.wp at *
  generalize (execOp a.eval o).run P w = r at *
  cases r with
  | ok m w' =>
    cases m <;> simp only [Oper.upon] at h ⊢
    case value => exact hK _ _ h
    case skip => exact hK _ _ h
    case defer => exact hK _ _ h
    case enter f args =>
      refine Calls.mono h fun e w'' he => ?_
      cases e with
      | returned u => exact hK _ _ he
      | panicked c => exact hp _ _ _ he
      | outgrown => exact ho he
    case row => exact Rows.mono h fun u w'' he => hK _ _ he
  | halt x w' =>
    cases x <;> simp only [Oper.upon] at h ⊢
    case panic => exact hp _ _ _ h
theorem wpAny_last (hB : lastB md l n = true) : ∀ (fuel : Nat) (listed : Array Bool) (a : Act) (w : World), listed.size = n + 1 → listed.getD n true = false →
    wpAny P md (offLast l n).toArray (postLast P l.toArray Q n) fuel listed a w → wpAny P md l.toArray Q fuel listed a w := by
  simp only [lastB, Bool.and_eq_true, decide_eq_true_eq, List.all_eq_true, List.mem_range] at hB
  obtain ⟨⟨⟨hl, hwait⟩, hguard⟩, hback⟩ := hB
  -- something can come up as long as the last one is not listed
  have progress : ∀ listed : Array Bool, listed.size = n + 1 → listed.getD n true = false → Region.ready md l.toArray listed ≠ [] := by
    intro listed hs hn
    have key : ∀ k, k ≤ n → (∀ j, j < k → listed.getD j false = true) → ∃ i, i ∈ Region.ready md l.toArray listed := by
      intro k hk
      induction hd : n - k generalizing k with
      | zero =>
        obtain rfl : k = n := by omega
        intro hall
        refine ⟨k, ?_⟩
        unfold Region.ready
        simp only [List.size_toArray, List.mem_filter, List.mem_range, List.getElem?_toArray]
        refine ⟨by omega, ?_⟩
        have hg : l[k]? = some l[k] := List.getElem?_eq_getElem (by omega)
        have hb := hback k (by omega)
        rw [hg] at hb ⊢
        simp only [Array.all_eq_true_iff_forall_mem] at hb
        simp only [hn, Option.map_some, Option.getD_some, Bool.not_false, Bool.true_and, Array.all_eq_true_iff_forall_mem]
        intro e he
        have := hb e he
        simp only [Bool.or_eq_true, decide_eq_true_eq] at this ⊢
        rcases this with h | h
        · exact Or.inl h
        · exact Or.inr (hall _ h)
      | succ d ih =>
        intro hall
        by_cases hlk : listed.getD k false = true
        · exact ih (k + 1) (by omega) (by omega) (fun j hj => by
            rcases Nat.lt_or_ge j k with h | h
            · exact hall j h
            · obtain rfl : j = k := by omega
              exact hlk)
        · refine ⟨k, ?_⟩
          unfold Region.ready
          simp only [List.size_toArray, List.mem_filter, List.mem_range, List.getElem?_toArray]
          refine ⟨by omega, ?_⟩
          have hg : l[k]? = some l[k] := List.getElem?_eq_getElem (by omega)
          have hb := hback k (by omega)
          rw [hg] at hb ⊢
          simp only [Array.all_eq_true_iff_forall_mem] at hb
          have hkf : listed.getD k true = false := by
            have hks : k < listed.size := by omega
            simp only [Array.getD_eq_getD_getElem?, Array.getElem?_eq_getElem hks, Option.getD_some] at hlk ⊢
            simpa using hlk
          simp only [hkf, Option.map_some, Option.getD_some, Bool.not_false, Bool.true_and, Array.all_eq_true_iff_forall_mem]
          intro e he
          have := hb e he
          simp only [Bool.or_eq_true, decide_eq_true_eq] at this ⊢
          rcases this with h | h
          · exact Or.inl h
          · exact Or.inr (hall _ h)
    obtain ⟨i, hi⟩ := key 0 (Nat.zero_le _) (fun j hj => absurd hj (by omega))
    intro h0
    rw [h0] at hi
    cases hi
  intro fuel
  induction fuel with
  | zero =>
    intro listed a w hs hn h
    exact absurd (off_ready (n := n) listed ▸ h.1) (progress listed hs hn)
  | succ fuel ih =>
    intro listed a w hs hn h
    refine ⟨fun h0 => absurd h0 (progress listed hs hn), fun i hi => ?_⟩
    have h2 := h.2 i (by rw [off_ready]; exact hi)
    have hil : i < n + 1 ∧ listed.getD i true = false ∧ ∀ e ∈ (l[i]?.map (·.after)).getD #[], Region.binds md e = true → listed.getD e.on false = true := by
      unfold Region.ready at hi
      simp only [List.size_toArray, List.mem_filter, List.mem_range, List.getElem?_toArray, Bool.and_eq_true, Bool.not_eq_true'] at hi
      obtain ⟨h1, h3, h4⟩ := hi
      refine ⟨by omega, h3, ?_⟩
      have hg : l[i]? = some l[i] := List.getElem?_eq_getElem (by omega)
      rw [hg] at h4 ⊢
      simp only [Option.map_some, Option.getD_some, Array.all_eq_true_iff_forall_mem] at h4 ⊢
      intro e he hb
      have := h4 e he
      rw [hb] at this
      simpa using this
    by_cases hin : i = n
    · subst hin
      -- all others are listed
      have hall : ∀ j, j < i → listed.getD j false = true := by
        intro j hj
        obtain ⟨oj, hoj, e, he, hb, hon⟩ := Region.waitsFor_spec (hwait j hj)
        have := hil.2.2 e (by rw [List.getElem?_toArray] at hoj; rw [hoj]; exact he) hb
        rwa [hon] at this
      have hr : Region.ready md l.toArray (listed.setIfInBounds i true) = [] := by
        unfold Region.ready
        rw [List.filter_eq_nil_iff]
        intro j hj
        simp only [List.size_toArray, List.mem_range] at hj
        have : (listed.setIfInBounds i true).getD j true = true := by
          have hjs : j < listed.size := by omega
          by_cases e : j = i
          · subst e; simp [Array.getD_eq_getD_getElem?, hjs]
          · have h5 := hall j (by omega)
            simp only [Array.getD_eq_getD_getElem?, Array.getElem?_setIfInBounds_ne (Ne.symm e)]
            simp only [Array.getD_eq_getD_getElem?, Array.getElem?_eq_getElem hjs, Option.getD_some] at h5 ⊢
            exact h5
        simp [this]
      have hr' : Region.ready md (offLast l i).toArray (listed.setIfInBounds i true) = [] := by rw [off_ready]; exact hr
      have hpost : wpOp P l.toArray Q i (Q .normal) a w := by
        have hg : l[i]? = some l[i] := List.getElem?_eq_getElem (by omega)
        unfold wpOp at h2
        rw [List.getElem?_toArray, offLast_at hl, hg] at h2
        simp only [Option.map_some] at h2
        have hnw : Region.wanted { l[i] with dst := none, guard := some (i, true) } (yielded (offLast l i).toArray a.tmps) = false := by
          unfold Region.wanted yielded
          simp only [List.getElem?_toArray, offLast_at hl, hg, Option.map_some]
          rfl
        rw [if_neg (by rw [hnw]; exact Bool.false_ne_true)] at h2
        simp only [Act.put] at h2
        cases fuel with
        | zero => exact h2.2
        | succ f => exact h2.1 hr'
      refine wpOp_mono (fun a w hq => ?_) hpost
      cases fuel with
      | zero => exact ⟨hr, hq⟩
      | succ f => exact ⟨fun _ => hq, fun j hj => by rw [hr] at hj; cases hj⟩
    · have hlt : i < n := by omega
      have hg : l[i]? = some l[i] := List.getElem?_eq_getElem (by omega)
      unfold wpOp at h2 ⊢
      rw [List.getElem?_toArray, offLast_lt hl hlt, hg] at h2
      rw [List.getElem?_toArray, hg]
      simp only at h2 ⊢
      have hw : Region.wanted l[i] (yielded (offLast l n).toArray a.tmps) = Region.wanted l[i] (yielded l.toArray a.tmps) := by
        have hgu := hguard l[i] (List.getElem_mem _)
        unfold Region.wanted
        cases hq : l[i].guard with
        | none => rfl
        | some p =>
          obtain ⟨j, b⟩ := p
          rw [hq] at hgu
          simp only [decide_eq_true_eq] at hgu
          simp only [off_yielded hl a.tmps hgu]
      rw [hw] at h2
      have hsz : (listed.setIfInBounds i true).size = n + 1 := by simp [hs]
      have hnn : (listed.setIfInBounds i true).getD n true = false := by
        simp only [Array.getD_eq_getD_getElem?, Array.getElem?_setIfInBounds_ne hin]
        simpa [Array.getD_eq_getD_getElem?] using hn
      split
      · rename_i hww
        rw [if_pos hww] at h2
        rcases h2 with h3 | ⟨h3, h4⟩
        · exact Or.inl (wp_change (fun a w h => ih _ a w hsz hnn h) (fun _ _ _ h => h) (fun h => h) h3)
        · exact Or.inr ⟨h3, h4⟩
      · rename_i hww
        rw [if_neg hww] at h2
        exact ih _ _ _ hsz hnn h2
theorem wpAny_post {ops : Array Oper} {Q2 : Exit → Act → World → Prop} (hp : ∀ e a w, Q2 e a w → Q e a w) : ∀ (fuel : Nat) (listed : Array Bool) (a : Act) (w : World), wpAny P md ops Q2 fuel listed a w → wpAny P md ops Q fuel listed a w := by
  intro fuel
  induction fuel with
  | zero => intro listed a w h; exact ⟨h.1, hp _ _ _ h.2⟩
  | succ fuel ih =>
    intro listed a w h
    refine ⟨fun h0 => hp _ _ _ (h.1 h0), fun i hi => ?_⟩
    have h2 := h.2 i hi
    unfold wpOp at h2 ⊢
    split
    · rename_i hn
      rw [hn] at h2
      exact ih _ _ _ h2
    · rename_i o ho
      rw [ho] at h2
      simp only at h2
      split
      · rename_i hww
        rw [if_pos hww] at h2
        rcases h2 with h3 | ⟨h3, a0, w0, h4⟩
        · exact Or.inl (wp_change (fun a w h => ih _ a w h) (fun _ _ _ h => hp _ _ _ h) (fun ⟨a0, w0, h⟩ => ⟨a0, w0, hp _ _ _ h⟩) h3)
        · exact Or.inr ⟨h3, a0, w0, hp _ _ _ h4⟩
      · rename_i hww
        rw [if_neg hww] at h2
        exact ih _ _ _ h2
/-- a held walk, closed to unfolding -/
structure HW (P : Program) (l : List Oper) (Q : Exit → Act → World → Prop) (S : World → Prop) (fuel : Nat) (listed : Array Bool) (a : Act) (w : World) : Prop where
  out : S w → wpAnyH P .any l.toArray Q S fuel listed a w
theorem wp_region_last {id : Nat} {a : Act} {w : World} (S : World → Prop) (l' : List Oper) (hm : P.follows .mixedOrders = true) (hB : lastB .any l n = true) (hl' : offLast l n = l') (hS : S w.drew)
    (h : HW P l' (NoPanic (postLast P l.toArray Q n)) S (n + 1) (Array.replicate (n + 1) false) a w.drew) : (Code.region id l.toArray true).wp P Q a w := by
  subst hl'
  have hl : l.length = n + 1 := by
    simp only [lastB, Bool.and_eq_true, decide_eq_true_eq] at hB
    exact hB.1.1.1
  have h1 := wpAny_of_held _ _ _ _ (h.out hS)
  have h2 : wpAny P .any (offLast l n).toArray (postLast P l.toArray Q n) (n + 1) (Array.replicate (n + 1) false) a w.drew := wpAny_post (fun e a w => NoPanic.imp e a w) _ _ _ _ h1
  have h3 := wpAny_last hB (n + 1) (Array.replicate (n + 1) false) a w.drew (by simp) (by simp [Array.getD_eq_getD_getElem?]) h2
  refine wp_region_any hm ?_
  rw [List.size_toArray, hl]
  exact h3
variable {S : World → Prop} {fuel : Nat} {listed : Array Bool} {a : Act} {w : World}
theorem HW.take (i : Nat) {oi : Oper} {v : Value} (hi : l[i]? = some oi) (hs : Region.noSelect l.toArray = true) (hf : Region.free .any l.toArray listed i = true) (hr : (Region.ready .any l.toArray listed).contains i = true)
    (hQ : ∀ c a w, Q (.panic c) (a.put oi.dst v) w → Q (.panic c) a w) (hw : Region.wanted oi (yielded l.toArray a.tmps) = true) (hv : ∀ W, S W → (execOp a.eval oi).run P W = .ok (.value v) W)
    (h : HW P l Q S fuel (listed.setIfInBounds i true) (a.put oi.dst v) w) : HW P l Q S (fuel + 1) listed a w :=
  ⟨fun hS => wpAnyH_take (by rw [List.getElem?_toArray]; exact hi) hs hf hr hQ (Or.inl ⟨hw, hv⟩) hS (h.out hS)⟩
theorem HW.skip (i : Nat) {oi : Oper} (hi : l[i]? = some oi) (hs : Region.noSelect l.toArray = true) (hf : Region.free .any l.toArray listed i = true) (hr : (Region.ready .any l.toArray listed).contains i = true)
    (hQ : ∀ c a w, Q (.panic c) (a.put oi.dst undef) w → Q (.panic c) a w) (hw : Region.wanted oi (yielded l.toArray a.tmps) = false)
    (h : HW P l Q S fuel (listed.setIfInBounds i true) (a.put oi.dst undef) w) : HW P l Q S (fuel + 1) listed a w :=
  ⟨fun hS => wpAnyH_take (by rw [List.getElem?_toArray]; exact hi) hs hf hr hQ (Or.inr ⟨hw, rfl⟩) hS (h.out hS)⟩
/-- the one operation that may come up -/
theorem HW.only (i : Nat) {oi : Oper} (hi : l[i]? = some oi) (hr : Region.ready .any l.toArray listed = [i]) (hw : Region.wanted oi (yielded l.toArray a.tmps) = true)
    (h : ∀ K : Act → World → Prop, (∀ a w, S w → HW P l Q S fuel (listed.setIfInBounds i true) a w → K a w) → oi.wp P a w K Q ∨ (oi.asks P a w ∧ LetsOut Q)) : HW P l Q S (fuel + 1) listed a w :=
  ⟨fun _ => wpAnyH_all hr (by simp) fun j hj => by
    rw [List.mem_singleton] at hj
    subst hj
    unfold wpOp
    rw [List.getElem?_toArray, hi]
    simp only
    rw [if_pos hw]
    exact h _ fun a w hS hH => ⟨hS, hH.out hS⟩⟩
theorem HW.done (hr : Region.ready .any l.toArray listed = []) (h : Q .normal a w) : HW P l Q S fuel listed a w := ⟨fun _ => wpAnyH_done hr h fuel⟩
theorem HW.last {ops : Array Oper} {n : Nat} {o : Oper} (hr : Region.ready .any l.toArray listed = []) (ho : ops[n]? = some o)
    (h : ∀ K' : Act → World → Prop, (∀ a w, Q .normal a w → K' a w) → if Region.wanted o (yielded ops a.tmps) = true then Oper.wp P o a w K' Q else K' (a.put o.dst undef) w) : HW P l (NoPanic (postLast P ops Q n)) S fuel listed a w :=
  HW.done hr (NoPanic.normal (show wpOp P ops Q n (Q .normal) a w from wpOp_step ho h))
end
end Go.Proofs.YtpcejpcbkjnlkaaGreatDoor

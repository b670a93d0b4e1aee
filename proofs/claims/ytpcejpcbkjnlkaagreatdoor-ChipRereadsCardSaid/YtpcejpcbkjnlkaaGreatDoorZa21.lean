/- Drawn regions where two or three operations may come up. -/
import Derived.Test.YtpcejpcbkjnlkaaGreatDoorZa12
set_option linter.unusedVariables false
namespace Go.Proofs.YtpcejpcbkjnlkaaGreatDoor

/-- a drawn region, no operation set apart -/
theorem wp_region_hw {P : Program} {l : List Oper} {Q : Exit → Act → World → Prop} {id : Nat} {a : Act} {w : World} (S : World → Prop) (n : Nat) (hm : P.follows .mixedOrders = true) (hl : l.length = n) (hS : S w.drew)
    (h : HW P l (NoPanic Q) S n (Array.replicate n false) a w.drew) : (Code.region id l.toArray true).wp P Q a w := by
  have h1 := wpAny_of_held _ _ _ _ (h.out hS)
  have h2 := wpAny_post (fun e a w => NoPanic.imp e a w) _ _ _ _ h1
  refine wp_region_any hm ?_
  rw [List.size_toArray, hl]
  exact h2
section
variable {P : Program} {l : List Oper} {n : Nat} {Q : Exit → Act → World → Prop} {S : World → Prop} {fuel : Nat} {listed : Array Bool} {a : Act} {w : World}
theorem HW.all (is : List Nat) (hr : Region.ready .any l.toArray listed = is) (h0 : is ≠ [])
    (h : ∀ i ∈ is, ∃ oi, l[i]? = some oi ∧ Region.wanted oi (yielded l.toArray a.tmps) = true ∧ ∀ K : Act → World → Prop, (∀ a w, S w → HW P l Q S fuel (listed.setIfInBounds i true) a w → K a w) → oi.wp P a w K Q ∨ (oi.asks P a w ∧ LetsOut Q)) : HW P l Q S (fuel + 1) listed a w :=
  ⟨fun _ => wpAnyH_all hr h0 fun j hj => by
    obtain ⟨oi, hi, hw, hh⟩ := h j hj
    unfold wpOp
    rw [List.getElem?_toArray, hi]
    simp only
    rw [if_pos hw]
    exact hh _ fun a w hS hH => ⟨hS, hH.out hS⟩⟩
theorem HW.two (i j : Nat) {oi oj : Oper} (hi : l[i]? = some oi) (hj : l[j]? = some oj) (hr : Region.ready .any l.toArray listed = [i, j]) (hwi : Region.wanted oi (yielded l.toArray a.tmps) = true) (hwj : Region.wanted oj (yielded l.toArray a.tmps) = true)
    (h1 : ∀ K : Act → World → Prop, (∀ a w, S w → HW P l Q S fuel (listed.setIfInBounds i true) a w → K a w) → oi.wp P a w K Q ∨ (oi.asks P a w ∧ LetsOut Q))
    (h2 : ∀ K : Act → World → Prop, (∀ a w, S w → HW P l Q S fuel (listed.setIfInBounds j true) a w → K a w) → oj.wp P a w K Q ∨ (oj.asks P a w ∧ LetsOut Q)) : HW P l Q S (fuel + 1) listed a w :=
  HW.all _ hr (by simp) fun k hk => by
    rcases List.mem_cons.1 hk with rfl | hk
    · exact ⟨_, hi, hwi, h1⟩
    · obtain rfl := List.mem_singleton.1 hk
      exact ⟨_, hj, hwj, h2⟩
theorem HW.three (i j k : Nat) {oi oj ok : Oper} (hi : l[i]? = some oi) (hj : l[j]? = some oj) (hk : l[k]? = some ok) (hr : Region.ready .any l.toArray listed = [i, j, k]) (hwi : Region.wanted oi (yielded l.toArray a.tmps) = true) (hwj : Region.wanted oj (yielded l.toArray a.tmps) = true) (hwk : Region.wanted ok (yielded l.toArray a.tmps) = true)
    (h1 : ∀ K : Act → World → Prop, (∀ a w, S w → HW P l Q S fuel (listed.setIfInBounds i true) a w → K a w) → oi.wp P a w K Q ∨ (oi.asks P a w ∧ LetsOut Q))
    (h2 : ∀ K : Act → World → Prop, (∀ a w, S w → HW P l Q S fuel (listed.setIfInBounds j true) a w → K a w) → oj.wp P a w K Q ∨ (oj.asks P a w ∧ LetsOut Q))
    (h3 : ∀ K : Act → World → Prop, (∀ a w, S w → HW P l Q S fuel (listed.setIfInBounds k true) a w → K a w) → ok.wp P a w K Q ∨ (ok.asks P a w ∧ LetsOut Q)) : HW P l Q S (fuel + 1) listed a w :=
  HW.all _ hr (by simp) fun x hx => by
    rcases List.mem_cons.1 hx with rfl | hx
    · exact ⟨_, hi, hwi, h1⟩
    rcases List.mem_cons.1 hx with rfl | hx
    · exact ⟨_, hj, hwj, h2⟩
    · obtain rfl := List.mem_singleton.1 hx
      exact ⟨_, hk, hwk, h3⟩
theorem HW.four (i j k m : Nat) {oi oj ok om : Oper} (hi : l[i]? = some oi) (hj : l[j]? = some oj) (hk : l[k]? = some ok) (hm : l[m]? = some om) (hr : Region.ready .any l.toArray listed = [i, j, k, m]) (hwi : Region.wanted oi (yielded l.toArray a.tmps) = true) (hwj : Region.wanted oj (yielded l.toArray a.tmps) = true) (hwk : Region.wanted ok (yielded l.toArray a.tmps) = true) (hwm : Region.wanted om (yielded l.toArray a.tmps) = true)
    (h1 : ∀ K : Act → World → Prop, (∀ a w, S w → HW P l Q S fuel (listed.setIfInBounds i true) a w → K a w) → oi.wp P a w K Q ∨ (oi.asks P a w ∧ LetsOut Q))
    (h2 : ∀ K : Act → World → Prop, (∀ a w, S w → HW P l Q S fuel (listed.setIfInBounds j true) a w → K a w) → oj.wp P a w K Q ∨ (oj.asks P a w ∧ LetsOut Q))
    (h3 : ∀ K : Act → World → Prop, (∀ a w, S w → HW P l Q S fuel (listed.setIfInBounds k true) a w → K a w) → ok.wp P a w K Q ∨ (ok.asks P a w ∧ LetsOut Q))
    (h4 : ∀ K : Act → World → Prop, (∀ a w, S w → HW P l Q S fuel (listed.setIfInBounds m true) a w → K a w) → om.wp P a w K Q ∨ (om.asks P a w ∧ LetsOut Q)) : HW P l Q S (fuel + 1) listed a w :=
  HW.all _ hr (by simp) fun x hx => by
    rcases List.mem_cons.1 hx with rfl | hx
    · exact ⟨_, hi, hwi, h1⟩
    rcases List.mem_cons.1 hx with rfl | hx
    · exact ⟨_, hj, hwj, h2⟩
    rcases List.mem_cons.1 hx with rfl | hx
    · exact ⟨_, hk, hwk, h3⟩
    · obtain rfl := List.mem_singleton.1 hx
      exact ⟨_, hm, hwm, h4⟩
end
def findRg (n : Nat) : Code → Option Code
  | .region i ops d => if i = n then some (.region i ops d) else none
  | .seq a b => (findRg n a).or (findRg n b)
  | .cond _ a b => (findRg n a).or (findRg n b)
  | .block _ b | .loop b | .scope b => findRg n b
  | _ => none
end Go.Proofs.YtpcejpcbkjnlkaaGreatDoor

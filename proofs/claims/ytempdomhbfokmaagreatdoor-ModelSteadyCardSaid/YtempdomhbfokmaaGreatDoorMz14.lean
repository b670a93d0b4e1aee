/- slices.Equal at numbers and at bytes. -/
import Derived.Test.YtempdomhbfokmaaGreatDoorMz12
import Derived.RegionTactic
namespace Go.Proofs.YtempdomhbfokmaaGreatDoor
open Go.RowKit

set_option maxRecDepth 100000 in
set_option maxHeartbeats 1000000 in
theorem eqInts_any (w : World) (T T' : Nat → Prop) (A B : Option Addr) (n m c d : Nat) (xs ys : List Int) (hx : Reads w T 1 A n (ints xs)) (hy : Reads w T' 1 B m (ints ys)) (hn : n ≤ 1000000) :
    Calls Tryz.prog 16 #[.slice A n c, .slice B m d] w fun e w' => e = .returned (.bool (decide (xs = ys))) ∧ ∃ k, w' = w.drewN k := by
  have hlx : xs.length = n := by have := hx.1; simp [ints] at this; omega
  have hly : ys.length = m := by have := hy.1; simp [ints] at this; omega
  by_cases hnm : n = m
  · subst hnm
    have HLX := Lib.hid hlx
    have HLY := Lib.hid hly
    clear hlx hly
    have hself : ((n : Int) != (n : Int)) = false := by simp
    go_enter Tryz.func16, Tryz.ntmps16
    go_wp2_with fail
    go_loopw [13] (fun i wr => ∃ k j : Nat, k ≤ n ∧ i = .int .i64 k ∧ wr = w.drewN j ∧ Hid (∀ q, q < k → xs[q]? = ys[q]?)) (fun i _ => n - (intOf i).toNat)
    case atStart => exact ⟨0, 0, Nat.zero_le _, rfl, rfl, fun q h => absurd h (by omega)⟩
    obtain ⟨k, j, hk, rfl, rfl, HQ⟩ := hrel
    by_cases hlt : k < n
    · obtain ⟨ad, u, rfl, _, _, hu, hc⟩ := hx.at_ hlt
      obtain ⟨ad2, u2, rfl, _, _, hu2, hc2⟩ := hy.at_ hlt
      have l1 : k < xs.length := by rw [HLX.out]; exact hlt
      have l2 : k < ys.length := by rw [HLY.out]; exact hlt
      rw [ints_get xs _ l1] at hu
      rw [ints_get ys _ l2] at hu2
      injection hu with hu
      injection hu2 with hu2
      subst hu
      subst hu2
      have g1 := List.getElem?_eq_getElem l1
      have g2 := List.getElem?_eq_getElem l2
      generalize xs[k] = x at *
      generalize ys[k] = y at *
      have G1 := Lib.hid g1
      have G2 := Lib.hid g2
      clear g1 g2 l1 l2
      by_cases hxy : x = y
      · subst hxy
        have hxx : ((x : Int) != x) = false := by simp
        go_wp2_with fail
        go_quiet (fail)
        go_wp2_with fail
        go_roundw
        case rel =>
          refine ⟨k + 1, _, by omega, by go_num, rfl, ?_⟩
          intro q hq
          by_cases e : q = k
          · subst e; rw [G1.out, G2.out]
          · exact HQ q (by omega)
        case measure => simp [intOf]; omega
      · have hxx : (x != y) = true := by simpa using hxy
        go_wp2_with fail
        go_quiet (fail)
        go_wp2_with fail
        go_ret
        refine ⟨?_, _, World.drewN_drewN _ _ _⟩
        have : xs ≠ ys := by
          intro e
          have h1 := G1.out
          rw [e, G2.out] at h1
          injection h1 with h1
          exact hxy h1.symm
        simp [this]
    · obtain rfl : k = n := by omega
      go_wp2_with fail
      go_ret
      refine ⟨?_, _, rfl⟩
      have : xs = ys := by
        apply List.ext_getElem?
        intro q
        by_cases hq : q < k
        · exact HQ q hq
        · rw [List.getElem?_eq_none (by rw [HLX.out]; omega), List.getElem?_eq_none (by rw [HLY.out]; omega)]
      simp [this]
  · have hne : ((n : Int) != (m : Int)) = true := by simp; omega
    go_enter Tryz.func16, Tryz.ntmps16
    go_wp2_with fail
    go_ret
    refine ⟨?_, 0, rfl⟩
    have : xs ≠ ys := fun e => hnm (by rw [← hlx, ← hly, e])
    simp [this]

end Go.Proofs.YtempdomhbfokmaaGreatDoor

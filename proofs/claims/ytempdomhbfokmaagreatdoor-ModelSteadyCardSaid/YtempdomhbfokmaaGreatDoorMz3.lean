/- The small functions of package models, and Check of a valid model. -/
import Derived.Test.YtempdomhbfokmaaGreatDoorRows
import Derived.Test.YtempdomhbfokmaaGreatDoorMz1
import Derived.Test.YtempdomhbfokmaaGreatDoorMz2
namespace Go.Proofs.YtempdomhbfokmaaGreatDoor
open Go.RowKit

set_option maxHeartbeats 400000 in
theorem within_yes (n lo hi : Int) (w : World) (h1 : lo ≤ n) (h2 : n ≤ hi) :
    Calls Tryz.prog 33 #[.int .i64 n, .int .i64 lo, .int .i64 hi] w fun e w' => e = .returned (.bool true) ∧ w = w' := by
  go_enter Tryz.func33, Tryz.ntmps33
  go_wp2
  go_ret
  exact ⟨rfl, rfl⟩
set_option maxHeartbeats 400000 in
theorem within_no (n lo hi : Int) (w : World) (h1 : n < lo ∨ hi < n) :
    Calls Tryz.prog 33 #[.int .i64 n, .int .i64 lo, .int .i64 hi] w fun e w' => e = .returned (.bool false) ∧ w = w' := by
  by_cases h : n < lo
  · go_enter Tryz.func33, Tryz.ntmps33
    go_wp2
    go_ret
    exact ⟨rfl, rfl⟩
  · have h2 : hi < n := by omega
    have h3 : lo ≤ n := by omega
    clear h1 h
    go_enter Tryz.func33, Tryz.ntmps33
    go_wp2
    go_ret
    exact ⟨by simp; omega, rfl⟩

set_option maxHeartbeats 400000 in
theorem sized_ok (k v x : Int) (w : World) (h1 : 1 ≤ k ∧ k ≤ 3) (h2 : 2 ≤ v ∧ v ≤ 16) (h3 : 1 ≤ x ∧ x ≤ 5) :
    Calls Tryz.prog 58 #[.int .i64 k, .int .i64 v, .int .i64 x] w fun e w' => e = .returned (.int .i64 0) ∧ w = w' := by
  obtain ⟨k1, k2⟩ := h1
  obtain ⟨v1, v2⟩ := h2
  obtain ⟨x1, x2⟩ := h3
  go_enter Tryz.func58, Tryz.ntmps58
  go_wp2_with (go_at_call 33; refine (within_yes _ _ _ _ (by omega) (by omega)).mono ?_; rintro e w' ⟨rfl, rfl⟩)
  go_ret
  exact ⟨rfl, rfl⟩

set_option maxHeartbeats 400000 in
theorem rows_ok (A : Option Addr) (n c d t : Nat) (w : World) (hd : 1 ≤ d) (hd2 : d ≤ 1000000) (hn : n = t * d) (hn2 : n ≤ 1000000000) :
    Calls Tryz.prog 64 #[.slice A n c, .int .i64 d] w fun e w' => e = .returned (.int .i64 t) ∧ w = w' := by
  have h0 : t ≤ 1000000000 := by
    have := Nat.le_mul_of_pos_right t (show 0 < d by omega)
    omega
  have h1 : (n : Int) % d = 0 := by subst hn; simp
  have h2 : (n : Int) / d = t := by subst hn; simp; exact Int.mul_ediv_cancel _ (by omega)
  clear hn
  go_enter Tryz.func64, Tryz.ntmps64
  go_wp2
  go_ret
  exact ⟨rfl, rfl⟩

/-! ### all -/
set_option maxHeartbeats 400000 in
theorem all1_yes (x lo hi : Int) (q1 q2 : Nat) (w : World) (c1 : w.cell? ⟨q1, 0, none⟩ = some (.int .i64 lo)) (c2 : w.cell? ⟨q2, 0, none⟩ = some (.int .i64 hi)) (h1 : lo ≤ x) (h2 : x ≤ hi) :
    Calls Tryz.prog 62 #[.int .i64 x, .pointer (some ⟨q1, 0, none⟩), .pointer (some ⟨q2, 0, none⟩)] w fun e w' => e = .returned (.bool false) ∧ w = w' := by
  go_enter Tryz.func62, Tryz.ntmps62
  go_wp2_with (go_at_call 33; refine (within_yes _ _ _ _ h1 h2).mono ?_; rintro e w' ⟨rfl, rfl⟩)
  go_ret
  exact ⟨rfl, rfl⟩

set_option maxHeartbeats 400000 in
theorem index_all (lo hi : Int) (q1 q2 : Nat) (w : World) (T : Nat → Prop) (A : Option Addr) (n c : Nat) (xs : List Int) (hr : Reads w T 1 A n (ints xs)) (hn : n ≤ 9223372036854775807)
    (c1 : w.cell? ⟨q1, 0, none⟩ = some (.int .i64 lo)) (c2 : w.cell? ⟨q2, 0, none⟩ = some (.int .i64 hi)) (hx : inRange lo hi xs) :
    Calls Tryz.prog 92 #[.slice A n c, .func (.func 62) #[] #[.pointer (some ⟨q1, 0, none⟩), .pointer (some ⟨q2, 0, none⟩)]] w fun e w' => e = .returned (.int .i64 (-1)) ∧ w = w' := by
  go_enter Tryz.func92, Tryz.ntmps92
  go_wp2_with fail
  go_loop [8] (fun i => ∃ k : Nat, k ≤ n ∧ i = .int .i64 k) (fun i => n - (intOf i).toNat)
  case atStart => exact ⟨0, Nat.zero_le _, rfl⟩
  case round =>
    obtain ⟨k, hk, rfl⟩ := hrel
    by_cases hlt : k < n
    · obtain ⟨ad, u, rfl, _, _, hu, hc⟩ := hr.at_ hlt
      have hll : k < xs.length := by have := hr.1; simp [ints] at this; omega
      rw [ints_get xs _ hll] at hu
      obtain ⟨h1, h2⟩ := hx _ (List.getElem_mem hll)
      obtain ⟨x, hx⟩ : ∃ x, x = xs[k] := ⟨_, rfl⟩
      rw [← hx] at hu h1 h2
      injection hu with hu
      subst hu
      clear hx
      go_wp2_with (go_at_call 62; refine (all1_yes _ _ _ _ _ _ c1 c2 h1 h2).mono ?_; rintro e w' ⟨rfl, rfl⟩)
      go_round
      case rel => exact ⟨k + 1, by omega, by go_num⟩
      case measure => simp [intOf]; omega
    · go_wp2_with fail
      go_ret
      exact ⟨rfl, rfl⟩

set_option maxHeartbeats 400000 in
theorem all_ok (lo hi : Int) (w : World) (T : Nat → Prop) (A : Option Addr) (n c : Nat) (xs : List Int) (hr : Reads w T 1 A n (ints xs)) (hn : n ≤ 9223372036854775807) (hx : inRange lo hi xs) :
    Calls Tryz.prog 35 #[.slice A n c, .int .i64 lo, .int .i64 hi] w fun e w' => e = .returned (.bool true) ∧ Below w.heap.size w w' := by
  go_enter Tryz.func35, Tryz.ntmps35
  go_wp2_with (first | (go_at_call 92; refine (index_all _ _ _ _ _ _ _ _ _ _ ((hr.alloc _).alloc _) hn (by go_cell) (by go_cell) hx).mono ?_; rintro e w' ⟨rfl, rfl⟩) | go_in)
  go_ret
  exact ⟨rfl, by go_grown⟩
theorem all_slc (lo hi : Int) (w : World) (T : Nat → Prop) (v : Value) (xs : List Int) (h : Slc w T v xs) (hx : inRange lo hi xs) :
    Calls Tryz.prog 35 #[v, .int .i64 lo, .int .i64 hi] w fun e w' => e = .returned (.bool true) ∧ Below w.heap.size w w' := by
  obtain ⟨A, c, rfl, hr, h1, h2, _⟩ := h
  exact all_ok lo hi w T A xs.length c xs hr (by unfold maxLen at h2; omega) hx
end Go.Proofs.YtempdomhbfokmaaGreatDoor

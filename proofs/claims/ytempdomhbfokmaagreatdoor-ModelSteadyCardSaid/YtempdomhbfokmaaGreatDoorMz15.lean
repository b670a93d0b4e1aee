/- slices.Contains at numbers: a number that is not there. -/
import Derived.Test.YtempdomhbfokmaaGreatDoorMz13
import Derived.Test.YtempdomhbfokmaaGreatDoorMz14
namespace Go.Proofs.YtempdomhbfokmaaGreatDoor
open Go.RowKit

set_option maxRecDepth 100000 in
set_option maxHeartbeats 1000000 in
theorem index_out (w : World) (T : Nat → Prop) (A : Option Addr) (n c : Nat) (xs : List Int) (hr : Reads w T 1 A n (ints xs)) (hn : n ≤ 1000000) (z : Int) (hz : ∀ x ∈ xs, x ≠ z) :
    Calls Tryz.prog 39 #[.slice A n c, .int .i64 z] w fun e w' => e = .returned (.int .i64 (-1)) ∧ w = w' := by
  have hlx : xs.length = n := by have := hr.1; simp [ints] at this; omega
  have HLX := Lib.hid hlx
  have HZ := Lib.hid hz
  clear hlx hz
  go_enter Tryz.func39, Tryz.ntmps39
  go_wp2_with fail
  go_loopw [8] (fun i wr => ∃ k : Nat, k ≤ n ∧ i = .int .i64 k ∧ wr = w) (fun i _ => n - (intOf i).toNat)
  case atStart => exact ⟨0, Nat.zero_le _, rfl, rfl⟩
  obtain ⟨k, hk, rfl, rfl⟩ := hrel
  by_cases hlt : k < n
  · obtain ⟨ad, u, rfl, _, _, hu, hc⟩ := hr.at_ hlt
    have l1 : k < xs.length := by rw [HLX.out]; exact hlt
    rw [ints_get xs _ l1] at hu
    injection hu with hu
    subst hu
    have hne := HZ.out _ (List.getElem_mem l1)
    generalize xs[k] = x at *
    have hb : ((z : Int) == x) = false := by simpa using fun e : z = x => hne e.symm
    clear l1 hne
    go_wp2_with fail
    go_roundw
    case rel => exact ⟨k + 1, by omega, by go_num, trivial⟩
    case measure => simp [intOf]; omega
  · obtain rfl : k = n := by omega
    go_wp2_with fail
    go_ret
    exact ⟨rfl, rfl⟩
theorem contains_out (w : World) (T : Nat → Prop) (A : Option Addr) (n c : Nat) (xs : List Int) (hr : Reads w T 1 A n (ints xs)) (hn : n ≤ 1000000) (z : Int) (hz : ∀ x ∈ xs, x ≠ z) :
    Calls Tryz.prog 17 #[.slice A n c, .int .i64 z] w fun e w' => e = .returned (.bool false) ∧ w = w' := by
  have HI := Lib.hid (index_out w T A n c xs hr hn z hz)
  clear hr hz
  go_enter Tryz.func17, Tryz.ntmps17
  go_wp2_with (go_at_call 39; refine HI.out.mono ?_; rintro e w' ⟨rfl, rfl⟩)
  go_ret
  exact ⟨rfl, rfl⟩
end Go.Proofs.YtempdomhbfokmaaGreatDoor

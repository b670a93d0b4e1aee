/- stands(): searches that find nothing. -/
import Derived.Test.YtempdomhbfokmaaGreatDoorMz3
import Derived.LoopTactic
import Derived.Deep.LoopGhost
namespace Go.Proofs.YtempdomhbfokmaaGreatDoor
open Go.RowKit

set_option maxRecDepth 100000 in
set_option maxHeartbeats 4000000 in
theorem elements_nil (w : World) (A : Option Addr) (c : Nat) : Calls Tryz.prog 114 #[.slice A 0 c] w fun e w' => e = .returned (.int .i64 1) ∧ w' = w := by
  go_enter Tryz.func114, Tryz.ntmps114
  go_wp2_with fail
  go_loopg [3, 8] 1 (fun f a b wr => a = .int .i64 1 ∧ b = .int .i64 0 ∧ wr = w)
  case atStart => exact ⟨rfl, rfl, rfl⟩
  obtain ⟨rfl, rfl, rfl⟩ := hrel
  go_wp2_with fail
  go_ret
  exact ⟨rfl, rfl⟩
set_option maxRecDepth 100000 in
set_option maxHeartbeats 4000000 in
theorem clone_dims_nil (w : World) : Calls Tryz.prog 52 #[.slice none 0 0] w fun e w' => e = .returned (.slice none 0 0) ∧ w' = w := by
  have he := fun W : World => Lib.run_eql_slice_nil (P := Tryz.prog) W 63 91 none 0 0 0 0 Tryz.underlying63
  go_enter Tryz.func52, Tryz.ntmps52
  go_wp2_with fail
  go_ret
  exact ⟨rfl, rfl⟩

/-! IndexFunc and ContainsFunc of an empty list -/
set_option maxRecDepth 100000 in
theorem index_axis_nil (w : World) (A : Option Addr) (c : Nat) (f : Value) : Calls Tryz.prog 240 #[.slice A 0 c, f] w fun e w' => e = .returned (.int .i64 (-1)) ∧ w = w' := by
  go_enter Tryz.func240, Tryz.ntmps240
  go_wp2_with fail
  go_loop [8] (fun i => i = .int .i64 0) (fun _ => 0)
  case atStart => rfl
  subst hrel
  go_wp2_with fail
  go_ret
  exact ⟨rfl, rfl⟩
set_option maxRecDepth 100000 in
theorem contains_axis_nil (w : World) (A : Option Addr) (c : Nat) (f : Value) : Calls Tryz.prog 191 #[.slice A 0 c, f] w fun e w' => e = .returned (.bool false) ∧ w = w' := by
  go_enter Tryz.func191, Tryz.ntmps191
  go_wp2_with (go_at_call 240; refine (index_axis_nil _ _ _ _).mono ?_; rintro e w' ⟨rfl, rfl⟩)
  go_ret
  exact ⟨rfl, rfl⟩
set_option maxRecDepth 100000 in
theorem index_string_nil (w : World) (A : Option Addr) (c : Nat) (f : Value) : Calls Tryz.prog 271 #[.slice A 0 c, f] w fun e w' => e = .returned (.int .i64 (-1)) ∧ w = w' := by
  go_enter Tryz.func271, Tryz.ntmps271
  go_wp2_with fail
  go_loop [8] (fun i => i = .int .i64 0) (fun _ => 0)
  case atStart => rfl
  subst hrel
  go_wp2_with fail
  go_ret
  exact ⟨rfl, rfl⟩
set_option maxRecDepth 100000 in
theorem contains_string_nil (w : World) (A : Option Addr) (c : Nat) (f : Value) : Calls Tryz.prog 229 #[.slice A 0 c, f] w fun e w' => e = .returned (.bool false) ∧ w = w' := by
  go_enter Tryz.func229, Tryz.ntmps229
  go_wp2_with (go_at_call 271; refine (index_string_nil _ _ _ _).mono ?_; rintro e w' ⟨rfl, rfl⟩)
  go_ret
  exact ⟨rfl, rfl⟩
set_option maxRecDepth 100000 in
theorem index_bool_nil (w : World) (A : Option Addr) (c : Nat) (f : Value) : Calls Tryz.prog 195 #[.slice A 0 c, f] w fun e w' => e = .returned (.int .i64 (-1)) ∧ w = w' := by
  go_enter Tryz.func195, Tryz.ntmps195
  go_wp2_with fail
  go_loop [8] (fun i => i = .int .i64 0) (fun _ => 0)
  case atStart => rfl
  subst hrel
  go_wp2_with fail
  go_ret
  exact ⟨rfl, rfl⟩
set_option maxRecDepth 100000 in
theorem contains_bool_nil (w : World) (A : Option Addr) (c : Nat) (f : Value) : Calls Tryz.prog 146 #[.slice A 0 c, f] w fun e w' => e = .returned (.bool false) ∧ w = w' := by
  go_enter Tryz.func146, Tryz.ntmps146
  go_wp2_with (go_at_call 195; refine (index_bool_nil _ _ _ _).mono ?_; rintro e w' ⟨rfl, rfl⟩)
  go_ret
  exact ⟨rfl, rfl⟩
/-! on numbers: a function value that says no of each -/
set_option maxRecDepth 100000 in
theorem index_ints_no (w : World) (T : Nat → Prop) (A : Option Addr) (n c : Nat) (xs : List Int) (hr : Reads w T 1 A n (ints xs)) (hn : n ≤ 9223372036854775807) (fn : FuncId) (caps : Array Value) (hf : ∀ (args : Array Value) (W : World), Sem.run Tryz.prog (callFunc fn args) W = .ok (.enter fn args) W)
    (hc : ∀ x ∈ xs, Calls Tryz.prog fn (#[.int .i64 x] ++ caps) w fun e w' => e = .returned (.bool false) ∧ w = w') :
    Calls Tryz.prog 92 #[.slice A n c, .func (.func fn) #[] caps] w fun e w' => e = .returned (.int .i64 (-1)) ∧ w = w' := by
  have HC := Lib.hid hc
  clear hc
  go_enter Tryz.func92, Tryz.ntmps92
  go_wp2_with fail
  go_loop [8] (fun i => ∃ k : Nat, k ≤ n ∧ i = .int .i64 k) (fun i => n - (intOf i).toNat)
  case atStart => exact ⟨0, Nat.zero_le _, rfl⟩
  case round =>
    obtain ⟨k, hk, rfl⟩ := hrel
    by_cases hlt : k < n
    · obtain ⟨ad, u, rfl, _, _, hu, hc⟩ := hr.at_ hlt
      have hll : k < xs.length := by have := hr.1; simp [ints] at this; omega
      rw [ints_get xs _ hll] at hu
      have hcx := HC.out _ (List.getElem_mem hll)
      obtain ⟨x, hx⟩ : ∃ x, x = xs[k] := ⟨_, rfl⟩
      rw [← hx] at hu hcx
      injection hu with hu
      subst hu
      have HX := Lib.hid hcx
      clear hx hcx
      go_wp2_with (refine HX.out.mono ?_; rintro e w' ⟨rfl, rfl⟩)
      go_round
      case rel => exact ⟨k + 1, by omega, by go_num⟩
      case measure => simp [intOf]; omega
    · go_wp2_with fail
      go_ret
      exact ⟨rfl, rfl⟩
set_option maxRecDepth 100000 in
theorem contains_ints_no (w : World) (T : Nat → Prop) (A : Option Addr) (n c : Nat) (xs : List Int) (hr : Reads w T 1 A n (ints xs)) (hn : n ≤ 9223372036854775807) (fn : FuncId) (caps : Array Value) (hf : ∀ (args : Array Value) (W : World), Sem.run Tryz.prog (callFunc fn args) W = .ok (.enter fn args) W)
    (hc : ∀ x ∈ xs, Calls Tryz.prog fn (#[.int .i64 x] ++ caps) w fun e w' => e = .returned (.bool false) ∧ w = w') :
    Calls Tryz.prog 61 #[.slice A n c, .func (.func fn) #[] caps] w fun e w' => e = .returned (.bool false) ∧ w = w' := by
  have HI := Lib.hid (index_ints_no w T A n c xs hr hn fn caps hf hc)
  clear hc hr
  go_enter Tryz.func61, Tryz.ntmps61
  go_wp2_with (go_at_call 92; refine HI.out.mono ?_; rintro e w' ⟨rfl, rfl⟩)
  go_ret
  exact ⟨rfl, rfl⟩
set_option maxRecDepth 100000 in
theorem isWord_yes (x : Int) (w : World) (h0 : -2147483648 ≤ x) (h1 : x ≤ 2147483647) : Calls Tryz.prog 236 #[.int .i64 x] w fun e w' => e = .returned (.bool true) ∧ w = w' := by
  go_enter Tryz.func236, Tryz.ntmps236
  go_wp2_with fail
  go_ret
  exact ⟨rfl, rfl⟩
set_option maxRecDepth 100000 in
theorem cloneAxes_nil (w : World) (A : Option Addr) (c : Nat) : Calls Tryz.prog 243 #[.slice A 0 c] w fun e w' => e = .returned (.slice none 0 0) ∧ w = w' := by
  go_enter Tryz.func243, Tryz.ntmps243
  go_wp2_with fail
  go_loop [3, 8] (fun v i => v = .slice none 0 0 ∧ i = .int .i64 0) (fun _ _ => 0)
  case atStart => exact ⟨rfl, rfl⟩
  obtain ⟨rfl, rfl⟩ := hrel
  go_wp2_with fail
  go_ret
  exact ⟨rfl, rfl⟩
set_option maxRecDepth 100000 in
theorem axisNames_nil (w : World) (A : Option Addr) (c : Nat) : Calls Tryz.prog 232 #[.slice A 0 c] w fun e w' => e = .returned (.slice none 0 0) ∧ w = w' := by
  go_enter Tryz.func232, Tryz.ntmps232
  go_wp2_with fail
  go_loop [3, 8] (fun v i => v = .slice none 0 0 ∧ i = .int .i64 0) (fun _ _ => 0)
  case atStart => exact ⟨rfl, rfl⟩
  obtain ⟨rfl, rfl⟩ := hrel
  go_wp2_with fail
  go_ret
  exact ⟨rfl, rfl⟩
set_option maxRecDepth 100000 in
theorem dims_nil (w : World) (A : Option Addr) (c : Nat) : Calls Tryz.prog 111 #[.slice A 0 c] w fun e w' => e = .returned (.slice none 0 0) ∧ w = w' := by
  go_enter Tryz.func111, Tryz.ntmps111
  go_wp2_with fail
  go_loop [3, 8] (fun v i => v = .slice none 0 0 ∧ i = .int .i64 0) (fun _ _ => 0)
  case atStart => exact ⟨rfl, rfl⟩
  obtain ⟨rfl, rfl⟩ := hrel
  go_wp2_with fail
  go_ret
  exact ⟨rfl, rfl⟩
set_option maxRecDepth 100000 in
theorem closed_nil (w : World) (A : Option Addr) (c : Nat) : Calls Tryz.prog 227 #[.slice A 0 c] w fun e w' => e = .returned (.bool true) ∧ w = w' := by
  go_enter Tryz.func227, Tryz.ntmps227
  go_wp2_with (go_at_call 191; refine (contains_axis_nil _ _ _ _).mono ?_; rintro e w' ⟨rfl, rfl⟩)
  go_ret
  exact ⟨rfl, rfl⟩
set_option maxRecDepth 100000 in
theorem symbols_nil (w : World) (A : Option Addr) (c : Nat) : Calls Tryz.prog 183 #[.slice A 0 c] w fun e w' => e = .returned (.int .i64 0) ∧ w = w' := by
  go_enter Tryz.func183, Tryz.ntmps183
  go_wp2_with fail
  go_loop [12] (fun i => i = .int .i64 0) (fun _ => 0)
  case atStart => rfl
  subst hrel
  go_wp2_with fail
  go_ret
  exact ⟨rfl, rfl⟩
set_option maxRecDepth 100000 in
theorem clone_axis_nil (w : World) : Calls Tryz.prog 303 #[.slice none 0 0] w fun e w' => e = .returned (.slice none 0 0) ∧ w = w' := by
  have he := fun W : World => Lib.run_eql_slice_nil (P := Tryz.prog) W 51 199 none 0 0 0 0 Tryz.underlying51
  go_enter Tryz.func303, Tryz.ntmps303
  go_wp2_with fail
  go_ret
  exact ⟨rfl, rfl⟩
end Go.Proofs.YtempdomhbfokmaaGreatDoor

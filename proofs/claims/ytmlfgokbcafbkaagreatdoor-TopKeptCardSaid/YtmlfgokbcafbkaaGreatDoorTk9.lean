/- Numbers of a model read back out of bytes, in plain words. Conditions: words. -/
import Derived.Test.YtmlfgokbcafbkaaGreatDoorTk8
import Derived.Laws.BitsLemmas
import Derived.Lib.EndianBits
namespace Go.Proofs.YtmlfgokbcafbkaaGreatDoor
open Go.RowKit

theorem and_nat (a b : Nat) (ha : a < 256) (hb : b < 256) : bits .and .u8 (a : Int) (b : Int) = ((a &&& b : Nat) : Int) ∧ bits .or .u8 (a : Int) (b : Int) = ((a ||| b : Nat) : Int) :=
  bits_nat .u8 8 (by decide) wraps_u8 a b (by have : (2 : Nat) ^ 8 = 256 := rfl; omega) (by have : (2 : Nat) ^ 8 = 256 := rfl; omega)
theorem or128 : ∀ a : Fin 256, (a.val ||| 128) = a.val % 128 + 128 := by decide +kernel
theorem and127 : ∀ a : Fin 256, (a.val &&& 127) = a.val % 128 := by decide +kernel
theorem bits_or128 (x : Int) (h : 0 ≤ x ∧ x ≤ 255) : bits .or .u8 x 128 = x % 128 + 128 := by
  obtain ⟨a, rfl⟩ := Int.eq_ofNat_of_zero_le h.1
  have h2 : a < 256 := by omega
  have e := (and_nat a 128 h2 (by decide)).2
  have e2 : (a ||| 128) = a % 128 + 128 := or128 ⟨a, h2⟩
  rw [e2] at e
  rw [show ((128 : Nat) : Int) = 128 from rfl] at e
  rw [e]
  omega
theorem bits_and127 (x : Int) (h : 0 ≤ x ∧ x ≤ 255) : bits .and .u8 x 127 = x % 128 := by
  obtain ⟨a, rfl⟩ := Int.eq_ofNat_of_zero_le h.1
  have h2 : a < 256 := by omega
  have e := (and_nat a 127 h2 (by decide)).1
  have e2 : (a &&& 127) = a % 128 := and127 ⟨a, h2⟩
  rw [e2] at e
  rw [show ((127 : Nat) : Int) = 127 from rfl] at e
  rw [e]
  omega
theorem varF_head (f u : Nat) (h : ¬ u < 128) : varF (f + 1) u = (((u % 128 : Nat) : Int) + 128) :: varF f (u / 128) := by
  rw [varF_more f u h, bits_or128 _ (by omega)]
  have : (u : Int) % 256 % 128 + 128 = ((u % 128 : Nat) : Int) + 128 := by omega
  rw [this]
theorem zig_lt (n : Int) (h : -2147483648 ≤ n ∧ n ≤ 2147483647) : zigF n < 4294967296 := by
  unfold zigF
  split <;> omega
/-- what a zigzag number is read as -/
def zagF (u : Nat) : Int := if u % 2 = 1 then -((u / 2 : Nat) : Int) - 1 else ((u / 2 : Nat) : Int)
theorem zag_zig (n : Int) : zagF (zigF n) = n := by
  unfold zagF zigF
  split <;> split <;> omega
/-- seven bits more -/
theorem or_seven (u c : Nat) (i : Nat) (hi : i ≤ 4) (hu : u < 128 ^ i) (hc : c < 128) : bits .or .i64 (u : Int) (wrap64 ((c : Int) * 2 ^ (7 * i))) = ((u + c * 128 ^ i : Nat) : Int) := by
  have hi5 : i = 0 ∨ i = 1 ∨ i = 2 ∨ i = 3 ∨ i = 4 := by omega
  have iw : ∀ n : Int, 0 ≤ n → n < 2 ^ 62 → IntKind.i64.wrap n = n := fun n h0 h1 => IntWalk.i64_in _ ⟨by omega, by omega⟩
  rcases hi5 with rfl | rfl | rfl | rfl | rfl
  · have e : wrap64 ((c : Int) * 2 ^ (7 * 0)) = c := IntWalk.wrap64_in _ ⟨by omega, by omega⟩ |>.trans (by omega)
    rw [e, bits_join_low .i64 62 (by decide) iw 0 u c (by omega) (by omega) (by omega) (by omega) (by omega) (by omega)]
    omega
  · have e : wrap64 ((c : Int) * 2 ^ (7 * 1)) = c * 128 := IntWalk.wrap64_in _ ⟨by omega, by omega⟩ |>.trans (by omega)
    rw [e, bits_join_low .i64 62 (by decide) iw 7 u (c * 128) (by omega) (by omega) (by omega) (by omega) (by omega) (by omega)]
    omega
  · have e : wrap64 ((c : Int) * 2 ^ (7 * 2)) = c * 16384 := IntWalk.wrap64_in _ ⟨by omega, by omega⟩ |>.trans (by omega)
    rw [e, bits_join_low .i64 62 (by decide) iw 14 u (c * 16384) (by omega) (by omega) (by omega) (by omega) (by omega) (by omega)]
    omega
  · have e : wrap64 ((c : Int) * 2 ^ (7 * 3)) = c * 2097152 := IntWalk.wrap64_in _ ⟨by omega, by omega⟩ |>.trans (by omega)
    rw [e, bits_join_low .i64 62 (by decide) iw 21 u (c * 2097152) (by omega) (by omega) (by omega) (by omega) (by omega) (by omega)]
    omega
  · have e : wrap64 ((c : Int) * 2 ^ (7 * 4)) = c * 268435456 := IntWalk.wrap64_in _ ⟨by omega, by omega⟩ |>.trans (by omega)
    rw [e, bits_join_low .i64 62 (by decide) iw 28 u (c * 268435456) (by omega) (by omega) (by omega) (by omega) (by omega) (by omega)]
    omega
end Go.Proofs.YtmlfgokbcafbkaaGreatDoor

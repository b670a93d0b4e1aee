/- The reading of numbers out of bytes. -/
import Derived.Test.YtedkfehdfmimoaaGreatKc7
import Derived.Lib.EndianBits
namespace Go.Proofs.YtedkfehdfmimoaaGreat
open Go.RowKit

/-- the number of bytes, the lowest one first -/
def leF : List Int → Int
  | [] => 0
  | x :: l => x + 256 * leF l
theorem leF_snoc (l : List Int) (x : Int) : leF (l ++ [x]) = leF l + x * 256 ^ l.length := by
  induction l with
  | nil => simp [leF]
  | cons a l ih =>
    rw [List.cons_append]
    unfold leF
    rw [ih, List.length_cons, Int.pow_succ]
    have : 256 * (x * 256 ^ l.length) = x * (256 ^ l.length * 256) := by
      rw [Int.mul_left_comm, Int.mul_comm 256]
    omega
theorem leF_in (l : List Int) (h : isBytes l) : 0 ≤ leF l ∧ leF l < 256 ^ l.length := by
  induction l with
  | nil => exact ⟨Int.le_refl 0, by show (0 : Int) < 1; omega⟩
  | cons a l ih =>
    obtain ⟨h1, h2⟩ := ih (fun x hx => h x (List.mem_cons_of_mem _ hx))
    have ha := h a List.mem_cons_self
    unfold leF
    rw [List.length_cons, Int.pow_succ]
    omega
theorem leF_low2 (n : Int) : leF (lowF n 2) = n % 65536 := by
  show n % 256 + 256 * (n / 256 % 256 + 256 * 0) = _
  omega
theorem leF_low4 (n : Int) : leF (lowF n 4) = n % 4294967296 := by
  show n % 256 + 256 * (n / 256 % 256 + 256 * (n / 256 / 256 % 256 + 256 * (n / 256 / 256 / 256 % 256 + 256 * 0))) = _
  omega
theorem i64_wraps (n : Int) (h0 : 0 ≤ n) (h1 : n < 2 ^ 62) : IntKind.i64.wrap n = n := IntWalk.i64_in _ ⟨by omega, by omega⟩
/-- the bytes so far and the next one -/
theorem or_next (r x : Int) (k : Nat) (hk : k < 4) (hr : 0 ≤ r ∧ r < 256 ^ k) (hx : 0 ≤ x ∧ x ≤ 255) : bits .or .i64 r (wrap64 (x * 2 ^ (8 * k))) = r + x * 256 ^ k := by
  have hk4 : k = 0 ∨ k = 1 ∨ k = 2 ∨ k = 3 := by omega
  obtain ⟨r1, r2⟩ := hr
  obtain ⟨x1, x2⟩ := hx
  rcases hk4 with rfl | rfl | rfl | rfl
  · have e : wrap64 (x * 2 ^ (8 * 0)) = x := IntWalk.wrap64_in _ ⟨by omega, by omega⟩ |>.trans (by omega)
    rw [e, bits_join_low .i64 62 (by decide) i64_wraps 0 r x r1 (by omega) (by omega) x1 (by omega) (by omega)]
    omega
  · have e : wrap64 (x * 2 ^ (8 * 1)) = x * 256 := IntWalk.wrap64_in _ ⟨by omega, by omega⟩ |>.trans (by omega)
    rw [e, bits_join_low .i64 62 (by decide) i64_wraps 8 r (x * 256) r1 (by omega) (by omega) (by omega) (by omega) (by omega)]
    omega
  · have e : wrap64 (x * 2 ^ (8 * 2)) = x * 65536 := IntWalk.wrap64_in _ ⟨by omega, by omega⟩ |>.trans (by omega)
    rw [e, bits_join_low .i64 62 (by decide) i64_wraps 16 r (x * 65536) r1 (by omega) (by omega) (by omega) (by omega) (by omega)]
    omega
  · have e : wrap64 (x * 2 ^ (8 * 3)) = x * 16777216 := IntWalk.wrap64_in _ ⟨by omega, by omega⟩ |>.trans (by omega)
    rw [e, bits_join_low .i64 62 (by decide) i64_wraps 24 r (x * 16777216) r1 (by omega) (by omega) (by omega) (by omega) (by omega)]
    omega
theorem numTo_succ (l : List Int) (k : Nat) (h : k < l.length) : leF (l.take (k + 1)) = leF (l.take k) + l[k] * 256 ^ k := by
  rw [List.take_succ_eq_append_getElem h, leF_snoc, List.length_take, Nat.min_eq_left (Nat.le_of_lt h)]

set_option maxRecDepth 100000 in
set_option maxHeartbeats 1000000 in
theorem number_any (w : World) (T : Nat → Prop) (A : Option Addr) (c : Nat) (xs : List Int) (hr : Reads w T 1 A xs.length (bytes xs)) (hn : xs.length ≤ 4) (hx : isBytes xs) :
    Calls Tryz.prog 48 #[.slice A xs.length c] w fun e w' => e = .returned (.int .i64 (leF xs)) ∧ w = w' := by
  obtain ⟨n, hnl⟩ : ∃ n, n = xs.length := ⟨_, rfl⟩
  have HX := Lib.hid hx
  have HN := Lib.hid hnl
  rw [← hnl] at hr hn ⊢
  clear hx hnl
  go_enter Tryz.func48, Tryz.ntmps48
  go_wp2_with fail
  go_loop [3, 8] (fun r i => ∃ k : Nat, k ≤ n ∧ r = .int .i64 (leF (xs.take k)) ∧ i = .int .i64 k) (fun _ i => n - (intOf i).toNat)
  case atStart => exact ⟨0, Nat.zero_le _, rfl, rfl⟩
  case round =>
    obtain ⟨k, hk, rfl, rfl⟩ := hrel
    by_cases hlt : k < n
    · obtain ⟨ad, u, rfl, _, _, hu, hc⟩ := hr.at_ hlt
      have hll : k < xs.length := by rw [← HN.out]; exact hlt
      rw [bytes_get xs _ hll] at hu
      injection hu with hu
      subst hu
      have HT := Lib.hid (numTo_succ xs k hll)
      obtain ⟨x1, x2⟩ := HX.out _ (List.getElem_mem hll)
      have HI := Lib.hid (leF_in (xs.take k) (fun x hx => HX.out x (List.mem_of_mem_take hx)))
      rw [List.length_take, Nat.min_eq_left (Nat.le_of_lt hll)] at HI
      generalize xs[k] = x at *
      generalize leF (xs.take k) = r at *
      go_wp2_with fail
      go_round
      case rel => exact ⟨k + 1, by omega, by rw [HT.out, or_next r x k (by omega) HI.out ⟨x1, x2⟩], by go_num⟩
      case measure => simp [intOf]; omega
    · obtain rfl : k = n := by omega
      go_wp2_with fail
      go_ret
      have e : leF (xs.take k) = leF xs := by rw [HN.out, List.take_length]
      rw [← e]
      exact ⟨rfl, rfl⟩
end Go.Proofs.YtedkfehdfmimoaaGreat

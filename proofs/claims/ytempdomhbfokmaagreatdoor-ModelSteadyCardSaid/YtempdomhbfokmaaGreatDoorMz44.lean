/- Decimal digits in plain words. -/
import Derived.Lib.ItoaNum
import Derived.Lib.ParseIntB
import Derived.Test.YtempdomhbfokmaaGreatDoorMz37
namespace Go.Proofs.YtempdomhbfokmaaGreatDoor
open Go.Lib

/-- the last k decimal digits of n -/
def padD : Nat → Nat → List UInt8
  | 0, _ => []
  | k + 1, n => padD k (n / 10) ++ [UInt8.ofNat (48 + n % 10)]
theorem padD_length (k n : Nat) : (padD k n).length = k := by
  induction k generalizing n with
  | zero => rfl
  | succ k ih => simp [padD, ih]
theorem decDigits_big {u : Nat} (h : ¬ u < 10) : decDigits u = decDigits (u / 10) ++ [UInt8.ofNat (48 + u % 10)] := by rw [decDigits, dif_neg h]
theorem dec_split (k q r : Nat) (hq : 0 < q) (hr : r < 10 ^ k) : decDigits (q * 10 ^ k + r) = decDigits q ++ padD k r := by
  induction k generalizing r with
  | zero =>
    have : r = 0 := by simpa using hr
    subst this
    simp [padD]
  | succ k ih =>
    have h1 : 10 ^ k * 1 ≤ 10 ^ k * q := Nat.mul_le_mul_left _ hq
    have hp : 1 ≤ 10 ^ k := Nat.one_le_pow _ _ (by decide)
    have e : q * 10 ^ (k + 1) + r = (q * 10 ^ k + r / 10) * 10 + r % 10 := by
      rw [Nat.pow_succ, Nat.add_mul, ← Nat.mul_assoc]
      omega
    have hr2 : r / 10 < 10 ^ k := by rw [Nat.pow_succ] at hr; omega
    have hbig : ¬ q * 10 ^ (k + 1) + r < 10 := by
      rw [e]
      have : 1 ≤ q * 10 ^ k := Nat.le_trans hq (Nat.le_mul_of_pos_right q hp)
      omega
    rw [decDigits_big hbig, e]
    rw [show ((q * 10 ^ k + r / 10) * 10 + r % 10) / 10 = q * 10 ^ k + r / 10 from by omega, show ((q * 10 ^ k + r / 10) * 10 + r % 10) % 10 = r % 10 from by omega, ih _ hr2, padD, List.append_assoc]
theorem padD_zero (k : Nat) : padD k 0 = List.replicate k 48 := by
  induction k with
  | zero => rfl
  | succ k ih => rw [padD, Nat.zero_div, ih, List.replicate_succ']; rfl
theorem padD_eq (k r : Nat) (h : nDigits r ≤ k) : padD k r = List.replicate (k - nDigits r) 48 ++ decDigits r := by
  induction k generalizing r with
  | zero => have := nDigits_pos r; omega
  | succ k ih =>
    by_cases hr : r < 10
    · rw [padD, Nat.div_eq_of_lt hr, padD_zero, decDigits_one hr, nDigits_small hr, Nat.mod_eq_of_lt hr]
      rfl
    · rw [padD, decDigits_big hr, nDigits_big hr, ih _ (by rw [nDigits_big hr] at h; omega), List.append_assoc]
      congr 2
      omega
theorem nDigits_le (k r : Nat) (h : r < 10 ^ k) (hk : 1 ≤ k) : nDigits r ≤ k := by
  induction k generalizing r with
  | zero => omega
  | succ k ih =>
    by_cases hr : r < 10
    · rw [nDigits_small hr]; omega
    · rw [nDigits_big hr]
      rcases Nat.eq_zero_or_pos k with h0 | h0
      · subst h0; simp at h; omega
      · have := ih (r / 10) (by rw [Nat.pow_succ] at h; omega) h0
        omega
theorem BB_pow : BB = 10 ^ 9 := by decide
/-- one more base digit at the end -/
theorem dec_digit (q d : Nat) (hq : 0 < q) (hd : d < BB) : decDigits (d + BB * q) = decDigits q ++ padD 9 d := by
  rw [BB_pow] at *
  rw [Nat.add_comm, Nat.mul_comm]
  exact dec_split 9 q d hq hd
theorem digit_nat (d : Nat) (hd : d < 10) : (UInt8.ofNat (48 + d)).toNat = 48 + d := by
  show (48 + d) % 256 = 48 + d
  omega
theorem parse_snoc (M a : Nat) (l : List UInt8) (d u : Nat) (hd : d < 10) (h : parseUintM M a l = .ok u) (hM : u * 10 + d ≤ M) (hM2 : M < 4294967296) : parseUintM M a (l ++ [UInt8.ofNat (48 + d)]) = .ok (u * 10 + d) := by
  induction l generalizing a with
  | nil =>
    have e : a = u := by simpa [parseUintM] using h
    subst e
    rw [List.nil_append, parseUintM, digit_nat d hd, if_pos (by omega), if_neg (by omega), if_neg (by omega), parseUintM]
    congr 1
    omega
  | cons c l ih =>
    rw [List.cons_append, parseUintM]
    rw [parseUintM] at h
    split
    · rename_i h1
      rw [if_pos h1] at h
      split
      · rename_i h2
        rw [if_pos h2] at h; cases h
      · rename_i h2
        rw [if_neg h2] at h
        split
        · rename_i h3
          rw [if_pos h3] at h; cases h
        · rename_i h3
          rw [if_neg h3] at h
          exact ih _ h
    · rename_i h1
      rw [if_neg h1] at h; cases h
theorem parse_padD (k r : Nat) (hr : r < 10 ^ k) (hM : r ≤ 4294967295) : parseUintM 4294967295 0 (padD k r) = .ok r := by
  induction k generalizing r with
  | zero =>
    have : r = 0 := by simpa using hr
    subst this; rfl
  | succ k ih =>
    have h := ih (r / 10) (by rw [Nat.pow_succ] at hr; omega) (by omega)
    have := parse_snoc 4294967295 0 _ (r % 10) (r / 10) (by omega) h (by omega) (by omega)
    rw [padD, this]
    congr 1
    omega
theorem parse_dec (r : Nat) (hM : r ≤ 4294967295) : parseUintM 4294967295 0 (decDigits r) = .ok r := by
  induction r using Nat.strongRecOn with
  | _ r ih =>
    by_cases h : r < 10
    · rw [decDigits_one h]
      have := parse_snoc 4294967295 0 [] r 0 h rfl (by omega) (by omega)
      rw [List.nil_append] at this
      rw [this]
      congr 1
      omega
    · rw [decDigits_big h]
      have := parse_snoc 4294967295 0 _ (r % 10) (r / 10) (by omega) (ih (r / 10) (by omega) (by omega)) (by omega) (by omega)
      rw [this]
      congr 1
      omega
theorem parseB_padD (r : Nat) (hr : r < BB) : parseUintB 32 (padD 9 r) = .ok r := by
  unfold BB at hr
  have hne : padD 9 r ≠ [] := fun h => by have := padD_length 9 r; rw [h] at this; cases this
  unfold parseUintB
  rw [if_neg hne]
  exact parse_padD 9 r (by omega) (by omega)
theorem parseB_dec (r : Nat) (hr : r < BB) : parseUintB 32 (decDigits r) = .ok r := by
  unfold BB at hr
  have hne : decDigits r ≠ [] := fun h => by have := decDigits_length r; rw [h] at this; have := nDigits_pos r; simp at *; omega
  unfold parseUintB
  rw [if_neg hne]
  exact parse_dec r (by omega)
end Go.Proofs.YtempdomhbfokmaaGreatDoor

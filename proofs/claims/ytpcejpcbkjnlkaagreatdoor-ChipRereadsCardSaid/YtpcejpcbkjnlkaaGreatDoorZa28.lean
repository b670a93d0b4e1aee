/- Numbers in a text: reading what was written; a field of a line is read as it was written. -/
import Derived.Test.YtpcejpcbkjnlkaaGreatDoorZa24
import Derived.Lib.Atoi
set_option linter.unusedVariables false
namespace Go.Proofs.YtpcejpcbkjnlkaaGreatDoor
open Go.Lib

theorem digitVal_ofNat {d : Nat} (h : d < 10) : digitVal (UInt8.ofNat (48 + d)) = some d := by
  unfold digitVal
  have e : (UInt8.ofNat (48 + d)).toNat = 48 + d := by rw [UInt8.toNat_ofNat']; omega
  rw [e, if_pos (by omega)]
  congr 1
  omega
theorem decFrom_snoc : ∀ (l : List UInt8) (acc n d : Nat) (b : UInt8), decFrom acc l = some n → digitVal b = some d → decFrom acc (l ++ [b]) = some (n * 10 + d)
  | [], acc, n, d, b, h, hb => by
    simp only [decFrom, Option.some.injEq] at h
    subst h
    simp [decFrom, hb]
  | c :: l, acc, n, d, b, h, hb => by
    rw [List.cons_append]
    unfold decFrom at h ⊢
    cases hc : digitVal c with
    | none => rw [hc] at h; cases h
    | some e => rw [hc] at h; exact decFrom_snoc l _ n d b h hb
theorem decFrom_dec (u : Nat) : decFrom 0 (decDigits u) = some u := by
  induction u using Nat.strongRecOn with
  | ind u ih =>
    rw [decDigits]
    by_cases h : u < 10
    · rw [dif_pos h]
      show (match digitVal (UInt8.ofNat (48 + u)) with | some d => decFrom (0 * 10 + d) [] | none => none) = some u
      rw [digitVal_ofNat h]
      simp [decFrom]
    · rw [dif_neg h, decFrom_snoc _ _ _ _ _ (ih (u / 10) (by omega)) (digitVal_ofNat (show u % 10 < 10 by omega))]
      congr 1
      omega
theorem dec_cons (u : Nat) : ∃ (d : Nat) (r : List UInt8), d < 10 ∧ decDigits u = UInt8.ofNat (48 + d) :: r := by
  have h := dec_mem u
  cases e : decDigits u with
  | nil => exact absurd (decDigits_length u) (by rw [e]; have := nDigits_pos u; simp; omega)
  | cons b r =>
    rw [e] at h
    obtain ⟨d, hd, rfl⟩ := h b List.mem_cons_self
    exact ⟨d, r, hd, rfl⟩
theorem decNat_dec (u : Nat) : decNat (decDigits u) = some u := by
  obtain ⟨d, r, _, e⟩ := dec_cons u
  unfold decNat
  rw [if_neg (by rw [e]; simp)]
  exact decFrom_dec u
theorem ofNat_ne {d : Nat} (h : d < 10) : (UInt8.ofNat (48 + d) == 45) = false ∧ (UInt8.ofNat (48 + d) == 43) = false := by
  have e : (UInt8.ofNat (48 + d)).toNat = 48 + d := by rw [UInt8.toNat_ofNat']; omega
  constructor
  · rw [beq_eq_false_iff_ne]
    intro h'
    rw [h'] at e
    have : (45 : UInt8).toNat = 45 := rfl
    omega
  · rw [beq_eq_false_iff_ne]
    intro h'
    rw [h'] at e
    have : (43 : UInt8).toNat = 43 := rfl
    omega
theorem atoi_itoa (n : Int) : atoi (itoa n) = some n := by
  unfold itoa
  by_cases h : n < 0
  · rw [if_pos h]
    unfold atoi
    dsimp only
    rw [if_pos (by decide), decNat_dec, Option.map_some]
    congr 1
    omega
  · rw [if_neg h]
    obtain ⟨d, r, hd, e⟩ := dec_cons n.toNat
    have h1 := decNat_dec n.toNat
    rw [e] at h1 ⊢
    obtain ⟨h2, h3⟩ := ofNat_ne hd
    unfold atoi
    dsimp only
    rw [h2, h3]
    simp only [Bool.false_eq_true, if_false]
    rw [h1, Option.map_some]
    congr 1
    omega
theorem dec_length : ∀ (k u : Nat), u < 10 ^ (k + 1) → (decDigits u).length ≤ k + 1
  | 0, u, h => by
    rw [decDigits, dif_pos (by simpa using h)]
    simp
  | k + 1, u, h => by
    rw [decDigits]
    by_cases h1 : u < 10
    · rw [dif_pos h1]; simp
    · rw [dif_neg h1, List.length_append]
      have := dec_length k (u / 10) (by rw [Nat.pow_succ] at h; omega)
      simp
      omega
theorem itoa_length {n : Int} (h1 : -2147483649 ≤ n) (h2 : n ≤ 2147483649) : (itoa n).length ≤ 11 := by
  unfold itoa
  split
  · have := dec_length 9 n.natAbs (by omega)
    simp only [List.length_cons]
    omega
  · have := dec_length 9 n.toNat (by omega)
    omega
theorem itoa_pos (n : Int) : 1 ≤ (itoa n).length := by
  unfold itoa
  split
  · simp
  · obtain ⟨d, r, _, e⟩ := dec_cons n.toNat
    rw [e]; simp
end Go.Proofs.YtpcejpcbkjnlkaaGreatDoor

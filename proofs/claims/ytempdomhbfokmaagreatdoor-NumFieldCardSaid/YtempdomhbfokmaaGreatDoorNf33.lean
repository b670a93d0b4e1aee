/- stands(): num.Make(2, 4). -/
import Derived.Test.YtempdomhbfokmaaGreatDoorNf22
namespace Go.Proofs.YtempdomhbfokmaaGreatDoor
open Go.RowKit

theorem mk_szS : Sz (mkRat 2 4) 100000 := by
  have e : ∀ m : Nat, m ≤ 4 → (ofN m).length ≤ 10 := fun m h => Nat.le_trans (ofN_length_mono _ _ h) (ofN_length_le _ _ (by decide))
  exact Sz.le (Sz_mk false 2 4 10 (by decide) (e 2 (by decide)) (e 4 (by decide))) (by decide)
theorem ratV_half : ratV (mkRat 2 4) = .agg #[.string ⟨#[49]⟩, .string ⟨#[50]⟩] := by
  have h1 : (mkRat 2 4).num = 1 := by decide +kernel
  have h2 : (mkRat 2 4).den = 2 := by decide +kernel
  unfold ratV
  rw [← itoaB_num, h1, h2]
  unfold itoaB decB Lib.itoa
  rw [if_neg (by decide), Lib.decDigits_one (by decide), Lib.decDigits_one (by decide)]
  rfl
theorem make_half (w : World) (htb : Tb w) : Calls Tryz.prog 25 #[.int .i64 2, .int .i64 4] w fun e w' => e = .returned (.tuple #[.agg #[.string ⟨#[49]⟩, .string ⟨#[50]⟩], .int .i64 0]) ∧ Below w.heap.size w w' := by
  have h := make_any w 2 4 (mkRat 2 4) (by decide) (by decide) (by decide) (Rat.mkRat_eq_div _ _).symm (mk_szS) htb
  rw [ratV_half] at h
  exact h
end Go.Proofs.YtempdomhbfokmaaGreatDoor

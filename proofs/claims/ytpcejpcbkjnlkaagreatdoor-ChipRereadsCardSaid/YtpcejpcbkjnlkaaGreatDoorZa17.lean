/- chip.formOf: which fields an instruction uses. Printed by gen_chip5.py. -/
import Derived.Test.YtpcejpcbkjnlkaaGreatDoorZa16
import Derived.KernelRfl
set_option linter.unusedVariables false
namespace Go.Proofs.YtpcejpcbkjnlkaaGreatDoor.AE
open Go.RowKit
set_option maxRecDepth 1000000

theorem form_1 (k d a b c p n m : Int) (w : World) : Calls Tryz.prog 38 #[.agg #[.int .i64 1, .int .i64 k, .int .i64 d, .int .i64 a, .int .i64 b, .int .i64 c, .int .i64 p, .int .i64 n, .int .i64 m]] w fun e w' => e = .returned (.tuple #[.agg #[.string ⟨#[110, 117, 109]⟩, .bool false, .int .i64 1, .int .i64 0, .int .i64 0, .int .i64 0, .int .i64 5, .int .i64 0, .bool true], .bool true]) ∧ Below w.heap.size w w' := by
  obtain ⟨H', c', R, W, h⟩ := valOf (show (callN Tryz.prog idle0 0 1000 noSums 20 38 [.agg #[.int .i64 1, .int .i64 k, .int .i64 d, .int .i64 a, .int .i64 b, .int .i64 c, .int .i64 p, .int .i64 n, .int .i64 m]] .nil 0).map (·.v) = some (.tuple #[.agg #[.string ⟨#[110, 117, 109]⟩, .bool false, .int .i64 1, .int .i64 0, .int .i64 0, .int .i64 0, .int .i64 5, .int .i64 0, .bool true], .bool true]) by kernel_rfl)
  exact call_closed names_ok mixed idle0_ok noSums_ok h rfl rfl w
theorem form_2_0 (d a b c p n m : Int) (w : World) : Calls Tryz.prog 38 #[.agg #[.int .i64 2, .int .i64 0, .int .i64 d, .int .i64 a, .int .i64 b, .int .i64 c, .int .i64 p, .int .i64 n, .int .i64 m]] w fun e w' => e = .returned (.tuple #[.agg #[.string ⟨#[111, 112]⟩, .bool true, .int .i64 1, .int .i64 1, .int .i64 0, .int .i64 0, .int .i64 0, .int .i64 0, .bool true], .bool true]) ∧ Below w.heap.size w w' := by
  obtain ⟨H', c', R, W, h⟩ := valOf (show (callN Tryz.prog idle0 0 1000 noSums 20 38 [.agg #[.int .i64 2, .int .i64 0, .int .i64 d, .int .i64 a, .int .i64 b, .int .i64 c, .int .i64 p, .int .i64 n, .int .i64 m]] .nil 0).map (·.v) = some (.tuple #[.agg #[.string ⟨#[111, 112]⟩, .bool true, .int .i64 1, .int .i64 1, .int .i64 0, .int .i64 0, .int .i64 0, .int .i64 0, .bool true], .bool true]) by kernel_rfl)
  exact call_closed names_ok mixed idle0_ok noSums_ok h rfl rfl w
theorem form_2_4 (d a b c p n m : Int) (w : World) : Calls Tryz.prog 38 #[.agg #[.int .i64 2, .int .i64 4, .int .i64 d, .int .i64 a, .int .i64 b, .int .i64 c, .int .i64 p, .int .i64 n, .int .i64 m]] w fun e w' => e = .returned (.tuple #[.agg #[.string ⟨#[111, 112]⟩, .bool true, .int .i64 1, .int .i64 1, .int .i64 1, .int .i64 0, .int .i64 0, .int .i64 0, .bool true], .bool true]) ∧ Below w.heap.size w w' := by
  obtain ⟨H', c', R, W, h⟩ := valOf (show (callN Tryz.prog idle0 0 1000 noSums 20 38 [.agg #[.int .i64 2, .int .i64 4, .int .i64 d, .int .i64 a, .int .i64 b, .int .i64 c, .int .i64 p, .int .i64 n, .int .i64 m]] .nil 0).map (·.v) = some (.tuple #[.agg #[.string ⟨#[111, 112]⟩, .bool true, .int .i64 1, .int .i64 1, .int .i64 1, .int .i64 0, .int .i64 0, .int .i64 0, .bool true], .bool true]) by kernel_rfl)
  exact call_closed names_ok mixed idle0_ok noSums_ok h rfl rfl w
theorem form_2_5 (d a b c p n m : Int) (w : World) : Calls Tryz.prog 38 #[.agg #[.int .i64 2, .int .i64 5, .int .i64 d, .int .i64 a, .int .i64 b, .int .i64 c, .int .i64 p, .int .i64 n, .int .i64 m]] w fun e w' => e = .returned (.tuple #[.agg #[.string ⟨#[111, 112]⟩, .bool true, .int .i64 1, .int .i64 1, .int .i64 1, .int .i64 0, .int .i64 0, .int .i64 0, .bool true], .bool true]) ∧ Below w.heap.size w w' := by
  obtain ⟨H', c', R, W, h⟩ := valOf (show (callN Tryz.prog idle0 0 1000 noSums 20 38 [.agg #[.int .i64 2, .int .i64 5, .int .i64 d, .int .i64 a, .int .i64 b, .int .i64 c, .int .i64 p, .int .i64 n, .int .i64 m]] .nil 0).map (·.v) = some (.tuple #[.agg #[.string ⟨#[111, 112]⟩, .bool true, .int .i64 1, .int .i64 1, .int .i64 1, .int .i64 0, .int .i64 0, .int .i64 0, .bool true], .bool true]) by kernel_rfl)
  exact call_closed names_ok mixed idle0_ok noSums_ok h rfl rfl w
theorem form_2_6 (d a b c p n m : Int) (w : World) : Calls Tryz.prog 38 #[.agg #[.int .i64 2, .int .i64 6, .int .i64 d, .int .i64 a, .int .i64 b, .int .i64 c, .int .i64 p, .int .i64 n, .int .i64 m]] w fun e w' => e = .returned (.tuple #[.agg #[.string ⟨#[111, 112]⟩, .bool true, .int .i64 1, .int .i64 1, .int .i64 1, .int .i64 0, .int .i64 0, .int .i64 0, .bool true], .bool true]) ∧ Below w.heap.size w w' := by
  obtain ⟨H', c', R, W, h⟩ := valOf (show (callN Tryz.prog idle0 0 1000 noSums 20 38 [.agg #[.int .i64 2, .int .i64 6, .int .i64 d, .int .i64 a, .int .i64 b, .int .i64 c, .int .i64 p, .int .i64 n, .int .i64 m]] .nil 0).map (·.v) = some (.tuple #[.agg #[.string ⟨#[111, 112]⟩, .bool true, .int .i64 1, .int .i64 1, .int .i64 1, .int .i64 0, .int .i64 0, .int .i64 0, .bool true], .bool true]) by kernel_rfl)
  exact call_closed names_ok mixed idle0_ok noSums_ok h rfl rfl w
theorem form_2_7 (d a b c p n m : Int) (w : World) : Calls Tryz.prog 38 #[.agg #[.int .i64 2, .int .i64 7, .int .i64 d, .int .i64 a, .int .i64 b, .int .i64 c, .int .i64 p, .int .i64 n, .int .i64 m]] w fun e w' => e = .returned (.tuple #[.agg #[.string ⟨#[111, 112]⟩, .bool true, .int .i64 1, .int .i64 1, .int .i64 1, .int .i64 0, .int .i64 0, .int .i64 0, .bool true], .bool true]) ∧ Below w.heap.size w w' := by
  obtain ⟨H', c', R, W, h⟩ := valOf (show (callN Tryz.prog idle0 0 1000 noSums 20 38 [.agg #[.int .i64 2, .int .i64 7, .int .i64 d, .int .i64 a, .int .i64 b, .int .i64 c, .int .i64 p, .int .i64 n, .int .i64 m]] .nil 0).map (·.v) = some (.tuple #[.agg #[.string ⟨#[111, 112]⟩, .bool true, .int .i64 1, .int .i64 1, .int .i64 1, .int .i64 0, .int .i64 0, .int .i64 0, .bool true], .bool true]) by kernel_rfl)
  exact call_closed names_ok mixed idle0_ok noSums_ok h rfl rfl w
theorem form_2_8 (d a b c p n m : Int) (w : World) : Calls Tryz.prog 38 #[.agg #[.int .i64 2, .int .i64 8, .int .i64 d, .int .i64 a, .int .i64 b, .int .i64 c, .int .i64 p, .int .i64 n, .int .i64 m]] w fun e w' => e = .returned (.tuple #[.agg #[.string ⟨#[111, 112]⟩, .bool true, .int .i64 1, .int .i64 1, .int .i64 1, .int .i64 0, .int .i64 0, .int .i64 0, .bool true], .bool true]) ∧ Below w.heap.size w w' := by
  obtain ⟨H', c', R, W, h⟩ := valOf (show (callN Tryz.prog idle0 0 1000 noSums 20 38 [.agg #[.int .i64 2, .int .i64 8, .int .i64 d, .int .i64 a, .int .i64 b, .int .i64 c, .int .i64 p, .int .i64 n, .int .i64 m]] .nil 0).map (·.v) = some (.tuple #[.agg #[.string ⟨#[111, 112]⟩, .bool true, .int .i64 1, .int .i64 1, .int .i64 1, .int .i64 0, .int .i64 0, .int .i64 0, .bool true], .bool true]) by kernel_rfl)
  exact call_closed names_ok mixed idle0_ok noSums_ok h rfl rfl w
theorem form_2_9 (d a b c p n m : Int) (w : World) : Calls Tryz.prog 38 #[.agg #[.int .i64 2, .int .i64 9, .int .i64 d, .int .i64 a, .int .i64 b, .int .i64 c, .int .i64 p, .int .i64 n, .int .i64 m]] w fun e w' => e = .returned (.tuple #[.agg #[.string ⟨#[111, 112]⟩, .bool true, .int .i64 1, .int .i64 1, .int .i64 1, .int .i64 0, .int .i64 0, .int .i64 0, .bool true], .bool true]) ∧ Below w.heap.size w w' := by
  obtain ⟨H', c', R, W, h⟩ := valOf (show (callN Tryz.prog idle0 0 1000 noSums 20 38 [.agg #[.int .i64 2, .int .i64 9, .int .i64 d, .int .i64 a, .int .i64 b, .int .i64 c, .int .i64 p, .int .i64 n, .int .i64 m]] .nil 0).map (·.v) = some (.tuple #[.agg #[.string ⟨#[111, 112]⟩, .bool true, .int .i64 1, .int .i64 1, .int .i64 1, .int .i64 0, .int .i64 0, .int .i64 0, .bool true], .bool true]) by kernel_rfl)
  exact call_closed names_ok mixed idle0_ok noSums_ok h rfl rfl w
theorem form_2_10 (d a b c p n m : Int) (w : World) : Calls Tryz.prog 38 #[.agg #[.int .i64 2, .int .i64 10, .int .i64 d, .int .i64 a, .int .i64 b, .int .i64 c, .int .i64 p, .int .i64 n, .int .i64 m]] w fun e w' => e = .returned (.tuple #[.agg #[.string ⟨#[111, 112]⟩, .bool true, .int .i64 1, .int .i64 1, .int .i64 1, .int .i64 0, .int .i64 0, .int .i64 0, .bool true], .bool true]) ∧ Below w.heap.size w w' := by
  obtain ⟨H', c', R, W, h⟩ := valOf (show (callN Tryz.prog idle0 0 1000 noSums 20 38 [.agg #[.int .i64 2, .int .i64 10, .int .i64 d, .int .i64 a, .int .i64 b, .int .i64 c, .int .i64 p, .int .i64 n, .int .i64 m]] .nil 0).map (·.v) = some (.tuple #[.agg #[.string ⟨#[111, 112]⟩, .bool true, .int .i64 1, .int .i64 1, .int .i64 1, .int .i64 0, .int .i64 0, .int .i64 0, .bool true], .bool true]) by kernel_rfl)
  exact call_closed names_ok mixed idle0_ok noSums_ok h rfl rfl w
theorem form_2_11 (d a b c p n m : Int) (w : World) : Calls Tryz.prog 38 #[.agg #[.int .i64 2, .int .i64 11, .int .i64 d, .int .i64 a, .int .i64 b, .int .i64 c, .int .i64 p, .int .i64 n, .int .i64 m]] w fun e w' => e = .returned (.tuple #[.agg #[.string ⟨#[111, 112]⟩, .bool true, .int .i64 1, .int .i64 1, .int .i64 0, .int .i64 0, .int .i64 0, .int .i64 0, .bool true], .bool true]) ∧ Below w.heap.size w w' := by
  obtain ⟨H', c', R, W, h⟩ := valOf (show (callN Tryz.prog idle0 0 1000 noSums 20 38 [.agg #[.int .i64 2, .int .i64 11, .int .i64 d, .int .i64 a, .int .i64 b, .int .i64 c, .int .i64 p, .int .i64 n, .int .i64 m]] .nil 0).map (·.v) = some (.tuple #[.agg #[.string ⟨#[111, 112]⟩, .bool true, .int .i64 1, .int .i64 1, .int .i64 0, .int .i64 0, .int .i64 0, .int .i64 0, .bool true], .bool true]) by kernel_rfl)
  exact call_closed names_ok mixed idle0_ok noSums_ok h rfl rfl w
theorem form_2_12 (d a b c p n m : Int) (w : World) : Calls Tryz.prog 38 #[.agg #[.int .i64 2, .int .i64 12, .int .i64 d, .int .i64 a, .int .i64 b, .int .i64 c, .int .i64 p, .int .i64 n, .int .i64 m]] w fun e w' => e = .returned (.tuple #[.agg #[.string ⟨#[111, 112]⟩, .bool true, .int .i64 1, .int .i64 1, .int .i64 0, .int .i64 0, .int .i64 5, .int .i64 5, .bool true], .bool true]) ∧ Below w.heap.size w w' := by
  obtain ⟨H', c', R, W, h⟩ := valOf (show (callN Tryz.prog idle0 0 1000 noSums 20 38 [.agg #[.int .i64 2, .int .i64 12, .int .i64 d, .int .i64 a, .int .i64 b, .int .i64 c, .int .i64 p, .int .i64 n, .int .i64 m]] .nil 0).map (·.v) = some (.tuple #[.agg #[.string ⟨#[111, 112]⟩, .bool true, .int .i64 1, .int .i64 1, .int .i64 0, .int .i64 0, .int .i64 5, .int .i64 5, .bool true], .bool true]) by kernel_rfl)
  exact call_closed names_ok mixed idle0_ok noSums_ok h rfl rfl w
theorem form_2_13 (d a b c p n m : Int) (w : World) : Calls Tryz.prog 38 #[.agg #[.int .i64 2, .int .i64 13, .int .i64 d, .int .i64 a, .int .i64 b, .int .i64 c, .int .i64 p, .int .i64 n, .int .i64 m]] w fun e w' => e = .returned (.tuple #[.agg #[.string ⟨#[111, 112]⟩, .bool true, .int .i64 1, .int .i64 1, .int .i64 0, .int .i64 0, .int .i64 5, .int .i64 0, .bool true], .bool true]) ∧ Below w.heap.size w w' := by
  obtain ⟨H', c', R, W, h⟩ := valOf (show (callN Tryz.prog idle0 0 1000 noSums 20 38 [.agg #[.int .i64 2, .int .i64 13, .int .i64 d, .int .i64 a, .int .i64 b, .int .i64 c, .int .i64 p, .int .i64 n, .int .i64 m]] .nil 0).map (·.v) = some (.tuple #[.agg #[.string ⟨#[111, 112]⟩, .bool true, .int .i64 1, .int .i64 1, .int .i64 0, .int .i64 0, .int .i64 5, .int .i64 0, .bool true], .bool true]) by kernel_rfl)
  exact call_closed names_ok mixed idle0_ok noSums_ok h rfl rfl w
theorem form_2_14 (d a b c p n m : Int) (w : World) : Calls Tryz.prog 38 #[.agg #[.int .i64 2, .int .i64 14, .int .i64 d, .int .i64 a, .int .i64 b, .int .i64 c, .int .i64 p, .int .i64 n, .int .i64 m]] w fun e w' => e = .returned (.tuple #[.agg #[.string ⟨#[111, 112]⟩, .bool true, .int .i64 1, .int .i64 1, .int .i64 0, .int .i64 0, .int .i64 5, .int .i64 0, .bool true], .bool true]) ∧ Below w.heap.size w w' := by
  obtain ⟨H', c', R, W, h⟩ := valOf (show (callN Tryz.prog idle0 0 1000 noSums 20 38 [.agg #[.int .i64 2, .int .i64 14, .int .i64 d, .int .i64 a, .int .i64 b, .int .i64 c, .int .i64 p, .int .i64 n, .int .i64 m]] .nil 0).map (·.v) = some (.tuple #[.agg #[.string ⟨#[111, 112]⟩, .bool true, .int .i64 1, .int .i64 1, .int .i64 0, .int .i64 0, .int .i64 5, .int .i64 0, .bool true], .bool true]) by kernel_rfl)
  exact call_closed names_ok mixed idle0_ok noSums_ok h rfl rfl w
theorem form_2_15 (d a b c p n m : Int) (w : World) : Calls Tryz.prog 38 #[.agg #[.int .i64 2, .int .i64 15, .int .i64 d, .int .i64 a, .int .i64 b, .int .i64 c, .int .i64 p, .int .i64 n, .int .i64 m]] w fun e w' => e = .returned (.tuple #[.agg #[.string ⟨#[111, 112]⟩, .bool true, .int .i64 1, .int .i64 1, .int .i64 1, .int .i64 1, .int .i64 0, .int .i64 0, .bool true], .bool true]) ∧ Below w.heap.size w w' := by
  obtain ⟨H', c', R, W, h⟩ := valOf (show (callN Tryz.prog idle0 0 1000 noSums 20 38 [.agg #[.int .i64 2, .int .i64 15, .int .i64 d, .int .i64 a, .int .i64 b, .int .i64 c, .int .i64 p, .int .i64 n, .int .i64 m]] .nil 0).map (·.v) = some (.tuple #[.agg #[.string ⟨#[111, 112]⟩, .bool true, .int .i64 1, .int .i64 1, .int .i64 1, .int .i64 1, .int .i64 0, .int .i64 0, .bool true], .bool true]) by kernel_rfl)
  exact call_closed names_ok mixed idle0_ok noSums_ok h rfl rfl w
theorem form_3 (k d a b c p n m : Int) (w : World) : Calls Tryz.prog 38 #[.agg #[.int .i64 3, .int .i64 k, .int .i64 d, .int .i64 a, .int .i64 b, .int .i64 c, .int .i64 p, .int .i64 n, .int .i64 m]] w fun e w' => e = .returned (.tuple #[.agg #[.string ⟨#[108, 111, 111, 112]⟩, .bool false, .int .i64 1, .int .i64 0, .int .i64 0, .int .i64 5, .int .i64 5, .int .i64 5, .bool false], .bool true]) ∧ Below w.heap.size w w' := by
  obtain ⟨H', c', R, W, h⟩ := valOf (show (callN Tryz.prog idle0 0 1000 noSums 20 38 [.agg #[.int .i64 3, .int .i64 k, .int .i64 d, .int .i64 a, .int .i64 b, .int .i64 c, .int .i64 p, .int .i64 n, .int .i64 m]] .nil 0).map (·.v) = some (.tuple #[.agg #[.string ⟨#[108, 111, 111, 112]⟩, .bool false, .int .i64 1, .int .i64 0, .int .i64 0, .int .i64 5, .int .i64 5, .int .i64 5, .bool false], .bool true]) by kernel_rfl)
  exact call_closed names_ok mixed idle0_ok noSums_ok h rfl rfl w
theorem form_4 (k d a b c p n m : Int) (w : World) : Calls Tryz.prog 38 #[.agg #[.int .i64 4, .int .i64 k, .int .i64 d, .int .i64 a, .int .i64 b, .int .i64 c, .int .i64 p, .int .i64 n, .int .i64 m]] w fun e w' => e = .returned (.tuple #[.agg #[.string ⟨#[101, 110, 100]⟩, .bool false, .int .i64 0, .int .i64 0, .int .i64 0, .int .i64 0, .int .i64 0, .int .i64 0, .bool false], .bool true]) ∧ Below w.heap.size w w' := by
  obtain ⟨H', c', R, W, h⟩ := valOf (show (callN Tryz.prog idle0 0 1000 noSums 20 38 [.agg #[.int .i64 4, .int .i64 k, .int .i64 d, .int .i64 a, .int .i64 b, .int .i64 c, .int .i64 p, .int .i64 n, .int .i64 m]] .nil 0).map (·.v) = some (.tuple #[.agg #[.string ⟨#[101, 110, 100]⟩, .bool false, .int .i64 0, .int .i64 0, .int .i64 0, .int .i64 0, .int .i64 0, .int .i64 0, .bool false], .bool true]) by kernel_rfl)
  exact call_closed names_ok mixed idle0_ok noSums_ok h rfl rfl w
theorem form_5 (k d a b c p n m : Int) (w : World) : Calls Tryz.prog 38 #[.agg #[.int .i64 5, .int .i64 k, .int .i64 d, .int .i64 a, .int .i64 b, .int .i64 c, .int .i64 p, .int .i64 n, .int .i64 m]] w fun e w' => e = .returned (.tuple #[.agg #[.string ⟨#[108, 100, 109]⟩, .bool false, .int .i64 1, .int .i64 1, .int .i64 0, .int .i64 0, .int .i64 5, .int .i64 0, .bool true], .bool true]) ∧ Below w.heap.size w w' := by
  obtain ⟨H', c', R, W, h⟩ := valOf (show (callN Tryz.prog idle0 0 1000 noSums 20 38 [.agg #[.int .i64 5, .int .i64 k, .int .i64 d, .int .i64 a, .int .i64 b, .int .i64 c, .int .i64 p, .int .i64 n, .int .i64 m]] .nil 0).map (·.v) = some (.tuple #[.agg #[.string ⟨#[108, 100, 109]⟩, .bool false, .int .i64 1, .int .i64 1, .int .i64 0, .int .i64 0, .int .i64 5, .int .i64 0, .bool true], .bool true]) by kernel_rfl)
  exact call_closed names_ok mixed idle0_ok noSums_ok h rfl rfl w
theorem form_6 (k d a b c p n m : Int) (w : World) : Calls Tryz.prog 38 #[.agg #[.int .i64 6, .int .i64 k, .int .i64 d, .int .i64 a, .int .i64 b, .int .i64 c, .int .i64 p, .int .i64 n, .int .i64 m]] w fun e w' => e = .returned (.tuple #[.agg #[.string ⟨#[115, 116, 109]⟩, .bool false, .int .i64 0, .int .i64 1, .int .i64 1, .int .i64 0, .int .i64 5, .int .i64 0, .bool true], .bool true]) ∧ Below w.heap.size w w' := by
  obtain ⟨H', c', R, W, h⟩ := valOf (show (callN Tryz.prog idle0 0 1000 noSums 20 38 [.agg #[.int .i64 6, .int .i64 k, .int .i64 d, .int .i64 a, .int .i64 b, .int .i64 c, .int .i64 p, .int .i64 n, .int .i64 m]] .nil 0).map (·.v) = some (.tuple #[.agg #[.string ⟨#[115, 116, 109]⟩, .bool false, .int .i64 0, .int .i64 1, .int .i64 1, .int .i64 0, .int .i64 5, .int .i64 0, .bool true], .bool true]) by kernel_rfl)
  exact call_closed names_ok mixed idle0_ok noSums_ok h rfl rfl w
theorem form_7 (k d a b c p n m : Int) (w : World) : Calls Tryz.prog 38 #[.agg #[.int .i64 7, .int .i64 k, .int .i64 d, .int .i64 a, .int .i64 b, .int .i64 c, .int .i64 p, .int .i64 n, .int .i64 m]] w fun e w' => e = .returned (.tuple #[.agg #[.string ⟨#[108, 100, 115]⟩, .bool false, .int .i64 1, .int .i64 1, .int .i64 0, .int .i64 3, .int .i64 5, .int .i64 0, .bool true], .bool true]) ∧ Below w.heap.size w w' := by
  obtain ⟨H', c', R, W, h⟩ := valOf (show (callN Tryz.prog idle0 0 1000 noSums 20 38 [.agg #[.int .i64 7, .int .i64 k, .int .i64 d, .int .i64 a, .int .i64 b, .int .i64 c, .int .i64 p, .int .i64 n, .int .i64 m]] .nil 0).map (·.v) = some (.tuple #[.agg #[.string ⟨#[108, 100, 115]⟩, .bool false, .int .i64 1, .int .i64 1, .int .i64 0, .int .i64 3, .int .i64 5, .int .i64 0, .bool true], .bool true]) by kernel_rfl)
  exact call_closed names_ok mixed idle0_ok noSums_ok h rfl rfl w
theorem form_8 (k d a b c p n m : Int) (w : World) : Calls Tryz.prog 38 #[.agg #[.int .i64 8, .int .i64 k, .int .i64 d, .int .i64 a, .int .i64 b, .int .i64 c, .int .i64 p, .int .i64 n, .int .i64 m]] w fun e w' => e = .returned (.tuple #[.agg #[.string ⟨#[115, 116, 115]⟩, .bool false, .int .i64 0, .int .i64 1, .int .i64 1, .int .i64 3, .int .i64 5, .int .i64 0, .bool true], .bool true]) ∧ Below w.heap.size w w' := by
  obtain ⟨H', c', R, W, h⟩ := valOf (show (callN Tryz.prog idle0 0 1000 noSums 20 38 [.agg #[.int .i64 8, .int .i64 k, .int .i64 d, .int .i64 a, .int .i64 b, .int .i64 c, .int .i64 p, .int .i64 n, .int .i64 m]] .nil 0).map (·.v) = some (.tuple #[.agg #[.string ⟨#[115, 116, 115]⟩, .bool false, .int .i64 0, .int .i64 1, .int .i64 1, .int .i64 3, .int .i64 5, .int .i64 0, .bool true], .bool true]) by kernel_rfl)
  exact call_closed names_ok mixed idle0_ok noSums_ok h rfl rfl w
theorem form_9 (k d a b c p n m : Int) (w : World) : Calls Tryz.prog 38 #[.agg #[.int .i64 9, .int .i64 k, .int .i64 d, .int .i64 a, .int .i64 b, .int .i64 c, .int .i64 p, .int .i64 n, .int .i64 m]] w fun e w' => e = .returned (.tuple #[.agg #[.string ⟨#[118, 108, 100]⟩, .bool false, .int .i64 2, .int .i64 1, .int .i64 0, .int .i64 3, .int .i64 5, .int .i64 0, .bool false], .bool true]) ∧ Below w.heap.size w w' := by
  obtain ⟨H', c', R, W, h⟩ := valOf (show (callN Tryz.prog idle0 0 1000 noSums 20 38 [.agg #[.int .i64 9, .int .i64 k, .int .i64 d, .int .i64 a, .int .i64 b, .int .i64 c, .int .i64 p, .int .i64 n, .int .i64 m]] .nil 0).map (·.v) = some (.tuple #[.agg #[.string ⟨#[118, 108, 100]⟩, .bool false, .int .i64 2, .int .i64 1, .int .i64 0, .int .i64 3, .int .i64 5, .int .i64 0, .bool false], .bool true]) by kernel_rfl)
  exact call_closed names_ok mixed idle0_ok noSums_ok h rfl rfl w
theorem form_10 (k d a b c p n m : Int) (w : World) : Calls Tryz.prog 38 #[.agg #[.int .i64 10, .int .i64 k, .int .i64 d, .int .i64 a, .int .i64 b, .int .i64 c, .int .i64 p, .int .i64 n, .int .i64 m]] w fun e w' => e = .returned (.tuple #[.agg #[.string ⟨#[118, 115, 116]⟩, .bool false, .int .i64 0, .int .i64 1, .int .i64 2, .int .i64 3, .int .i64 5, .int .i64 0, .bool false], .bool true]) ∧ Below w.heap.size w w' := by
  obtain ⟨H', c', R, W, h⟩ := valOf (show (callN Tryz.prog idle0 0 1000 noSums 20 38 [.agg #[.int .i64 10, .int .i64 k, .int .i64 d, .int .i64 a, .int .i64 b, .int .i64 c, .int .i64 p, .int .i64 n, .int .i64 m]] .nil 0).map (·.v) = some (.tuple #[.agg #[.string ⟨#[118, 115, 116]⟩, .bool false, .int .i64 0, .int .i64 1, .int .i64 2, .int .i64 3, .int .i64 5, .int .i64 0, .bool false], .bool true]) by kernel_rfl)
  exact call_closed names_ok mixed idle0_ok noSums_ok h rfl rfl w
theorem form_11_0 (d a b c p n m : Int) (w : World) : Calls Tryz.prog 38 #[.agg #[.int .i64 11, .int .i64 0, .int .i64 d, .int .i64 a, .int .i64 b, .int .i64 c, .int .i64 p, .int .i64 n, .int .i64 m]] w fun e w' => e = .returned (.tuple #[.agg #[.string ⟨#[118, 111, 112]⟩, .bool true, .int .i64 2, .int .i64 2, .int .i64 0, .int .i64 0, .int .i64 0, .int .i64 0, .bool false], .bool true]) ∧ Below w.heap.size w w' := by
  obtain ⟨H', c', R, W, h⟩ := valOf (show (callN Tryz.prog idle0 0 1000 noSums 20 38 [.agg #[.int .i64 11, .int .i64 0, .int .i64 d, .int .i64 a, .int .i64 b, .int .i64 c, .int .i64 p, .int .i64 n, .int .i64 m]] .nil 0).map (·.v) = some (.tuple #[.agg #[.string ⟨#[118, 111, 112]⟩, .bool true, .int .i64 2, .int .i64 2, .int .i64 0, .int .i64 0, .int .i64 0, .int .i64 0, .bool false], .bool true]) by kernel_rfl)
  exact call_closed names_ok mixed idle0_ok noSums_ok h rfl rfl w
theorem form_11_4 (d a b c p n m : Int) (w : World) : Calls Tryz.prog 38 #[.agg #[.int .i64 11, .int .i64 4, .int .i64 d, .int .i64 a, .int .i64 b, .int .i64 c, .int .i64 p, .int .i64 n, .int .i64 m]] w fun e w' => e = .returned (.tuple #[.agg #[.string ⟨#[118, 111, 112]⟩, .bool true, .int .i64 2, .int .i64 2, .int .i64 2, .int .i64 0, .int .i64 0, .int .i64 0, .bool false], .bool true]) ∧ Below w.heap.size w w' := by
  obtain ⟨H', c', R, W, h⟩ := valOf (show (callN Tryz.prog idle0 0 1000 noSums 20 38 [.agg #[.int .i64 11, .int .i64 4, .int .i64 d, .int .i64 a, .int .i64 b, .int .i64 c, .int .i64 p, .int .i64 n, .int .i64 m]] .nil 0).map (·.v) = some (.tuple #[.agg #[.string ⟨#[118, 111, 112]⟩, .bool true, .int .i64 2, .int .i64 2, .int .i64 2, .int .i64 0, .int .i64 0, .int .i64 0, .bool false], .bool true]) by kernel_rfl)
  exact call_closed names_ok mixed idle0_ok noSums_ok h rfl rfl w
theorem form_11_5 (d a b c p n m : Int) (w : World) : Calls Tryz.prog 38 #[.agg #[.int .i64 11, .int .i64 5, .int .i64 d, .int .i64 a, .int .i64 b, .int .i64 c, .int .i64 p, .int .i64 n, .int .i64 m]] w fun e w' => e = .returned (.tuple #[.agg #[.string ⟨#[118, 111, 112]⟩, .bool true, .int .i64 2, .int .i64 2, .int .i64 2, .int .i64 0, .int .i64 0, .int .i64 0, .bool false], .bool true]) ∧ Below w.heap.size w w' := by
  obtain ⟨H', c', R, W, h⟩ := valOf (show (callN Tryz.prog idle0 0 1000 noSums 20 38 [.agg #[.int .i64 11, .int .i64 5, .int .i64 d, .int .i64 a, .int .i64 b, .int .i64 c, .int .i64 p, .int .i64 n, .int .i64 m]] .nil 0).map (·.v) = some (.tuple #[.agg #[.string ⟨#[118, 111, 112]⟩, .bool true, .int .i64 2, .int .i64 2, .int .i64 2, .int .i64 0, .int .i64 0, .int .i64 0, .bool false], .bool true]) by kernel_rfl)
  exact call_closed names_ok mixed idle0_ok noSums_ok h rfl rfl w
theorem form_11_6 (d a b c p n m : Int) (w : World) : Calls Tryz.prog 38 #[.agg #[.int .i64 11, .int .i64 6, .int .i64 d, .int .i64 a, .int .i64 b, .int .i64 c, .int .i64 p, .int .i64 n, .int .i64 m]] w fun e w' => e = .returned (.tuple #[.agg #[.string ⟨#[118, 111, 112]⟩, .bool true, .int .i64 2, .int .i64 2, .int .i64 2, .int .i64 0, .int .i64 0, .int .i64 0, .bool false], .bool true]) ∧ Below w.heap.size w w' := by
  obtain ⟨H', c', R, W, h⟩ := valOf (show (callN Tryz.prog idle0 0 1000 noSums 20 38 [.agg #[.int .i64 11, .int .i64 6, .int .i64 d, .int .i64 a, .int .i64 b, .int .i64 c, .int .i64 p, .int .i64 n, .int .i64 m]] .nil 0).map (·.v) = some (.tuple #[.agg #[.string ⟨#[118, 111, 112]⟩, .bool true, .int .i64 2, .int .i64 2, .int .i64 2, .int .i64 0, .int .i64 0, .int .i64 0, .bool false], .bool true]) by kernel_rfl)
  exact call_closed names_ok mixed idle0_ok noSums_ok h rfl rfl w
theorem form_11_7 (d a b c p n m : Int) (w : World) : Calls Tryz.prog 38 #[.agg #[.int .i64 11, .int .i64 7, .int .i64 d, .int .i64 a, .int .i64 b, .int .i64 c, .int .i64 p, .int .i64 n, .int .i64 m]] w fun e w' => e = .returned (.tuple #[.agg #[.string ⟨#[118, 111, 112]⟩, .bool true, .int .i64 2, .int .i64 2, .int .i64 2, .int .i64 0, .int .i64 0, .int .i64 0, .bool false], .bool true]) ∧ Below w.heap.size w w' := by
  obtain ⟨H', c', R, W, h⟩ := valOf (show (callN Tryz.prog idle0 0 1000 noSums 20 38 [.agg #[.int .i64 11, .int .i64 7, .int .i64 d, .int .i64 a, .int .i64 b, .int .i64 c, .int .i64 p, .int .i64 n, .int .i64 m]] .nil 0).map (·.v) = some (.tuple #[.agg #[.string ⟨#[118, 111, 112]⟩, .bool true, .int .i64 2, .int .i64 2, .int .i64 2, .int .i64 0, .int .i64 0, .int .i64 0, .bool false], .bool true]) by kernel_rfl)
  exact call_closed names_ok mixed idle0_ok noSums_ok h rfl rfl w
theorem form_11_8 (d a b c p n m : Int) (w : World) : Calls Tryz.prog 38 #[.agg #[.int .i64 11, .int .i64 8, .int .i64 d, .int .i64 a, .int .i64 b, .int .i64 c, .int .i64 p, .int .i64 n, .int .i64 m]] w fun e w' => e = .returned (.tuple #[.agg #[.string ⟨#[118, 111, 112]⟩, .bool true, .int .i64 2, .int .i64 2, .int .i64 2, .int .i64 0, .int .i64 0, .int .i64 0, .bool false], .bool true]) ∧ Below w.heap.size w w' := by
  obtain ⟨H', c', R, W, h⟩ := valOf (show (callN Tryz.prog idle0 0 1000 noSums 20 38 [.agg #[.int .i64 11, .int .i64 8, .int .i64 d, .int .i64 a, .int .i64 b, .int .i64 c, .int .i64 p, .int .i64 n, .int .i64 m]] .nil 0).map (·.v) = some (.tuple #[.agg #[.string ⟨#[118, 111, 112]⟩, .bool true, .int .i64 2, .int .i64 2, .int .i64 2, .int .i64 0, .int .i64 0, .int .i64 0, .bool false], .bool true]) by kernel_rfl)
  exact call_closed names_ok mixed idle0_ok noSums_ok h rfl rfl w
theorem form_11_9 (d a b c p n m : Int) (w : World) : Calls Tryz.prog 38 #[.agg #[.int .i64 11, .int .i64 9, .int .i64 d, .int .i64 a, .int .i64 b, .int .i64 c, .int .i64 p, .int .i64 n, .int .i64 m]] w fun e w' => e = .returned (.tuple #[.agg #[.string ⟨#[118, 111, 112]⟩, .bool true, .int .i64 2, .int .i64 2, .int .i64 2, .int .i64 0, .int .i64 0, .int .i64 0, .bool false], .bool true]) ∧ Below w.heap.size w w' := by
  obtain ⟨H', c', R, W, h⟩ := valOf (show (callN Tryz.prog idle0 0 1000 noSums 20 38 [.agg #[.int .i64 11, .int .i64 9, .int .i64 d, .int .i64 a, .int .i64 b, .int .i64 c, .int .i64 p, .int .i64 n, .int .i64 m]] .nil 0).map (·.v) = some (.tuple #[.agg #[.string ⟨#[118, 111, 112]⟩, .bool true, .int .i64 2, .int .i64 2, .int .i64 2, .int .i64 0, .int .i64 0, .int .i64 0, .bool false], .bool true]) by kernel_rfl)
  exact call_closed names_ok mixed idle0_ok noSums_ok h rfl rfl w
theorem form_11_10 (d a b c p n m : Int) (w : World) : Calls Tryz.prog 38 #[.agg #[.int .i64 11, .int .i64 10, .int .i64 d, .int .i64 a, .int .i64 b, .int .i64 c, .int .i64 p, .int .i64 n, .int .i64 m]] w fun e w' => e = .returned (.tuple #[.agg #[.string ⟨#[118, 111, 112]⟩, .bool true, .int .i64 2, .int .i64 2, .int .i64 2, .int .i64 0, .int .i64 0, .int .i64 0, .bool false], .bool true]) ∧ Below w.heap.size w w' := by
  obtain ⟨H', c', R, W, h⟩ := valOf (show (callN Tryz.prog idle0 0 1000 noSums 20 38 [.agg #[.int .i64 11, .int .i64 10, .int .i64 d, .int .i64 a, .int .i64 b, .int .i64 c, .int .i64 p, .int .i64 n, .int .i64 m]] .nil 0).map (·.v) = some (.tuple #[.agg #[.string ⟨#[118, 111, 112]⟩, .bool true, .int .i64 2, .int .i64 2, .int .i64 2, .int .i64 0, .int .i64 0, .int .i64 0, .bool false], .bool true]) by kernel_rfl)
  exact call_closed names_ok mixed idle0_ok noSums_ok h rfl rfl w
theorem form_11_11 (d a b c p n m : Int) (w : World) : Calls Tryz.prog 38 #[.agg #[.int .i64 11, .int .i64 11, .int .i64 d, .int .i64 a, .int .i64 b, .int .i64 c, .int .i64 p, .int .i64 n, .int .i64 m]] w fun e w' => e = .returned (.tuple #[.agg #[.string ⟨#[118, 111, 112]⟩, .bool true, .int .i64 2, .int .i64 2, .int .i64 0, .int .i64 0, .int .i64 0, .int .i64 0, .bool false], .bool true]) ∧ Below w.heap.size w w' := by
  obtain ⟨H', c', R, W, h⟩ := valOf (show (callN Tryz.prog idle0 0 1000 noSums 20 38 [.agg #[.int .i64 11, .int .i64 11, .int .i64 d, .int .i64 a, .int .i64 b, .int .i64 c, .int .i64 p, .int .i64 n, .int .i64 m]] .nil 0).map (·.v) = some (.tuple #[.agg #[.string ⟨#[118, 111, 112]⟩, .bool true, .int .i64 2, .int .i64 2, .int .i64 0, .int .i64 0, .int .i64 0, .int .i64 0, .bool false], .bool true]) by kernel_rfl)
  exact call_closed names_ok mixed idle0_ok noSums_ok h rfl rfl w
theorem form_11_12 (d a b c p n m : Int) (w : World) : Calls Tryz.prog 38 #[.agg #[.int .i64 11, .int .i64 12, .int .i64 d, .int .i64 a, .int .i64 b, .int .i64 c, .int .i64 p, .int .i64 n, .int .i64 m]] w fun e w' => e = .returned (.tuple #[.agg #[.string ⟨#[118, 111, 112]⟩, .bool true, .int .i64 2, .int .i64 2, .int .i64 0, .int .i64 0, .int .i64 5, .int .i64 5, .bool false], .bool true]) ∧ Below w.heap.size w w' := by
  obtain ⟨H', c', R, W, h⟩ := valOf (show (callN Tryz.prog idle0 0 1000 noSums 20 38 [.agg #[.int .i64 11, .int .i64 12, .int .i64 d, .int .i64 a, .int .i64 b, .int .i64 c, .int .i64 p, .int .i64 n, .int .i64 m]] .nil 0).map (·.v) = some (.tuple #[.agg #[.string ⟨#[118, 111, 112]⟩, .bool true, .int .i64 2, .int .i64 2, .int .i64 0, .int .i64 0, .int .i64 5, .int .i64 5, .bool false], .bool true]) by kernel_rfl)
  exact call_closed names_ok mixed idle0_ok noSums_ok h rfl rfl w
theorem form_11_13 (d a b c p n m : Int) (w : World) : Calls Tryz.prog 38 #[.agg #[.int .i64 11, .int .i64 13, .int .i64 d, .int .i64 a, .int .i64 b, .int .i64 c, .int .i64 p, .int .i64 n, .int .i64 m]] w fun e w' => e = .returned (.tuple #[.agg #[.string ⟨#[118, 111, 112]⟩, .bool true, .int .i64 2, .int .i64 2, .int .i64 0, .int .i64 0, .int .i64 5, .int .i64 0, .bool false], .bool true]) ∧ Below w.heap.size w w' := by
  obtain ⟨H', c', R, W, h⟩ := valOf (show (callN Tryz.prog idle0 0 1000 noSums 20 38 [.agg #[.int .i64 11, .int .i64 13, .int .i64 d, .int .i64 a, .int .i64 b, .int .i64 c, .int .i64 p, .int .i64 n, .int .i64 m]] .nil 0).map (·.v) = some (.tuple #[.agg #[.string ⟨#[118, 111, 112]⟩, .bool true, .int .i64 2, .int .i64 2, .int .i64 0, .int .i64 0, .int .i64 5, .int .i64 0, .bool false], .bool true]) by kernel_rfl)
  exact call_closed names_ok mixed idle0_ok noSums_ok h rfl rfl w
theorem form_11_14 (d a b c p n m : Int) (w : World) : Calls Tryz.prog 38 #[.agg #[.int .i64 11, .int .i64 14, .int .i64 d, .int .i64 a, .int .i64 b, .int .i64 c, .int .i64 p, .int .i64 n, .int .i64 m]] w fun e w' => e = .returned (.tuple #[.agg #[.string ⟨#[118, 111, 112]⟩, .bool true, .int .i64 2, .int .i64 2, .int .i64 0, .int .i64 0, .int .i64 5, .int .i64 0, .bool false], .bool true]) ∧ Below w.heap.size w w' := by
  obtain ⟨H', c', R, W, h⟩ := valOf (show (callN Tryz.prog idle0 0 1000 noSums 20 38 [.agg #[.int .i64 11, .int .i64 14, .int .i64 d, .int .i64 a, .int .i64 b, .int .i64 c, .int .i64 p, .int .i64 n, .int .i64 m]] .nil 0).map (·.v) = some (.tuple #[.agg #[.string ⟨#[118, 111, 112]⟩, .bool true, .int .i64 2, .int .i64 2, .int .i64 0, .int .i64 0, .int .i64 5, .int .i64 0, .bool false], .bool true]) by kernel_rfl)
  exact call_closed names_ok mixed idle0_ok noSums_ok h rfl rfl w
theorem form_11_15 (d a b c p n m : Int) (w : World) : Calls Tryz.prog 38 #[.agg #[.int .i64 11, .int .i64 15, .int .i64 d, .int .i64 a, .int .i64 b, .int .i64 c, .int .i64 p, .int .i64 n, .int .i64 m]] w fun e w' => e = .returned (.tuple #[.agg #[.string ⟨#[118, 111, 112]⟩, .bool true, .int .i64 2, .int .i64 2, .int .i64 2, .int .i64 2, .int .i64 0, .int .i64 0, .bool false], .bool true]) ∧ Below w.heap.size w w' := by
  obtain ⟨H', c', R, W, h⟩ := valOf (show (callN Tryz.prog idle0 0 1000 noSums 20 38 [.agg #[.int .i64 11, .int .i64 15, .int .i64 d, .int .i64 a, .int .i64 b, .int .i64 c, .int .i64 p, .int .i64 n, .int .i64 m]] .nil 0).map (·.v) = some (.tuple #[.agg #[.string ⟨#[118, 111, 112]⟩, .bool true, .int .i64 2, .int .i64 2, .int .i64 2, .int .i64 2, .int .i64 0, .int .i64 0, .bool false], .bool true]) by kernel_rfl)
  exact call_closed names_ok mixed idle0_ok noSums_ok h rfl rfl w
theorem form_12 (k d a b c p n m : Int) (w : World) : Calls Tryz.prog 38 #[.agg #[.int .i64 12, .int .i64 k, .int .i64 d, .int .i64 a, .int .i64 b, .int .i64 c, .int .i64 p, .int .i64 n, .int .i64 m]] w fun e w' => e = .returned (.tuple #[.agg #[.string ⟨#[118, 100, 117, 112]⟩, .bool false, .int .i64 2, .int .i64 1, .int .i64 0, .int .i64 0, .int .i64 0, .int .i64 0, .bool false], .bool true]) ∧ Below w.heap.size w w' := by
  obtain ⟨H', c', R, W, h⟩ := valOf (show (callN Tryz.prog idle0 0 1000 noSums 20 38 [.agg #[.int .i64 12, .int .i64 k, .int .i64 d, .int .i64 a, .int .i64 b, .int .i64 c, .int .i64 p, .int .i64 n, .int .i64 m]] .nil 0).map (·.v) = some (.tuple #[.agg #[.string ⟨#[118, 100, 117, 112]⟩, .bool false, .int .i64 2, .int .i64 1, .int .i64 0, .int .i64 0, .int .i64 0, .int .i64 0, .bool false], .bool true]) by kernel_rfl)
  exact call_closed names_ok mixed idle0_ok noSums_ok h rfl rfl w
theorem form_13 (k d a b c p n m : Int) (w : World) : Calls Tryz.prog 38 #[.agg #[.int .i64 13, .int .i64 k, .int .i64 d, .int .i64 a, .int .i64 b, .int .i64 c, .int .i64 p, .int .i64 n, .int .i64 m]] w fun e w' => e = .returned (.tuple #[.agg #[.string ⟨#[118, 103, 101, 116]⟩, .bool false, .int .i64 1, .int .i64 2, .int .i64 0, .int .i64 0, .int .i64 5, .int .i64 0, .bool false], .bool true]) ∧ Below w.heap.size w w' := by
  obtain ⟨H', c', R, W, h⟩ := valOf (show (callN Tryz.prog idle0 0 1000 noSums 20 38 [.agg #[.int .i64 13, .int .i64 k, .int .i64 d, .int .i64 a, .int .i64 b, .int .i64 c, .int .i64 p, .int .i64 n, .int .i64 m]] .nil 0).map (·.v) = some (.tuple #[.agg #[.string ⟨#[118, 103, 101, 116]⟩, .bool false, .int .i64 1, .int .i64 2, .int .i64 0, .int .i64 0, .int .i64 5, .int .i64 0, .bool false], .bool true]) by kernel_rfl)
  exact call_closed names_ok mixed idle0_ok noSums_ok h rfl rfl w
theorem form_14 (k d a b c p n m : Int) (w : World) : Calls Tryz.prog 38 #[.agg #[.int .i64 14, .int .i64 k, .int .i64 d, .int .i64 a, .int .i64 b, .int .i64 c, .int .i64 p, .int .i64 n, .int .i64 m]] w fun e w' => e = .returned (.tuple #[.agg #[.string ⟨#[119, 116, 115]⟩, .bool false, .int .i64 0, .int .i64 1, .int .i64 0, .int .i64 3, .int .i64 5, .int .i64 5, .bool false], .bool true]) ∧ Below w.heap.size w w' := by
  obtain ⟨H', c', R, W, h⟩ := valOf (show (callN Tryz.prog idle0 0 1000 noSums 20 38 [.agg #[.int .i64 14, .int .i64 k, .int .i64 d, .int .i64 a, .int .i64 b, .int .i64 c, .int .i64 p, .int .i64 n, .int .i64 m]] .nil 0).map (·.v) = some (.tuple #[.agg #[.string ⟨#[119, 116, 115]⟩, .bool false, .int .i64 0, .int .i64 1, .int .i64 0, .int .i64 3, .int .i64 5, .int .i64 5, .bool false], .bool true]) by kernel_rfl)
  exact call_closed names_ok mixed idle0_ok noSums_ok h rfl rfl w
theorem form_15 (k d a b c p n m : Int) (w : World) : Calls Tryz.prog 38 #[.agg #[.int .i64 15, .int .i64 k, .int .i64 d, .int .i64 a, .int .i64 b, .int .i64 c, .int .i64 p, .int .i64 n, .int .i64 m]] w fun e w' => e = .returned (.tuple #[.agg #[.string ⟨#[109, 97, 99]⟩, .bool false, .int .i64 0, .int .i64 2, .int .i64 0, .int .i64 0, .int .i64 0, .int .i64 0, .bool false], .bool true]) ∧ Below w.heap.size w w' := by
  obtain ⟨H', c', R, W, h⟩ := valOf (show (callN Tryz.prog idle0 0 1000 noSums 20 38 [.agg #[.int .i64 15, .int .i64 k, .int .i64 d, .int .i64 a, .int .i64 b, .int .i64 c, .int .i64 p, .int .i64 n, .int .i64 m]] .nil 0).map (·.v) = some (.tuple #[.agg #[.string ⟨#[109, 97, 99]⟩, .bool false, .int .i64 0, .int .i64 2, .int .i64 0, .int .i64 0, .int .i64 0, .int .i64 0, .bool false], .bool true]) by kernel_rfl)
  exact call_closed names_ok mixed idle0_ok noSums_ok h rfl rfl w
theorem form_16 (k d a b c p n m : Int) (w : World) : Calls Tryz.prog 38 #[.agg #[.int .i64 16, .int .i64 k, .int .i64 d, .int .i64 a, .int .i64 b, .int .i64 c, .int .i64 p, .int .i64 n, .int .i64 m]] w fun e w' => e = .returned (.tuple #[.agg #[.string ⟨#[99, 108, 114]⟩, .bool false, .int .i64 0, .int .i64 0, .int .i64 0, .int .i64 0, .int .i64 0, .int .i64 0, .bool false], .bool true]) ∧ Below w.heap.size w w' := by
  obtain ⟨H', c', R, W, h⟩ := valOf (show (callN Tryz.prog idle0 0 1000 noSums 20 38 [.agg #[.int .i64 16, .int .i64 k, .int .i64 d, .int .i64 a, .int .i64 b, .int .i64 c, .int .i64 p, .int .i64 n, .int .i64 m]] .nil 0).map (·.v) = some (.tuple #[.agg #[.string ⟨#[99, 108, 114]⟩, .bool false, .int .i64 0, .int .i64 0, .int .i64 0, .int .i64 0, .int .i64 0, .int .i64 0, .bool false], .bool true]) by kernel_rfl)
  exact call_closed names_ok mixed idle0_ok noSums_ok h rfl rfl w
theorem form_17 (k d a b c p n m : Int) (w : World) : Calls Tryz.prog 38 #[.agg #[.int .i64 17, .int .i64 k, .int .i64 d, .int .i64 a, .int .i64 b, .int .i64 c, .int .i64 p, .int .i64 n, .int .i64 m]] w fun e w' => e = .returned (.tuple #[.agg #[.string ⟨#[97, 99, 99]⟩, .bool false, .int .i64 2, .int .i64 0, .int .i64 0, .int .i64 0, .int .i64 0, .int .i64 0, .bool false], .bool true]) ∧ Below w.heap.size w w' := by
  obtain ⟨H', c', R, W, h⟩ := valOf (show (callN Tryz.prog idle0 0 1000 noSums 20 38 [.agg #[.int .i64 17, .int .i64 k, .int .i64 d, .int .i64 a, .int .i64 b, .int .i64 c, .int .i64 p, .int .i64 n, .int .i64 m]] .nil 0).map (·.v) = some (.tuple #[.agg #[.string ⟨#[97, 99, 99]⟩, .bool false, .int .i64 2, .int .i64 0, .int .i64 0, .int .i64 0, .int .i64 0, .int .i64 0, .bool false], .bool true]) by kernel_rfl)
  exact call_closed names_ok mixed idle0_ok noSums_ok h rfl rfl w
theorem form_18 (k d a b c p n m : Int) (w : World) : Calls Tryz.prog 38 #[.agg #[.int .i64 18, .int .i64 k, .int .i64 d, .int .i64 a, .int .i64 b, .int .i64 c, .int .i64 p, .int .i64 n, .int .i64 m]] w fun e w' => e = .returned (.tuple #[.agg #[.string ⟨#[116, 114]⟩, .bool true, .int .i64 4, .int .i64 1, .int .i64 1, .int .i64 3, .int .i64 5, .int .i64 5, .bool false], .bool true]) ∧ Below w.heap.size w w' := by
  obtain ⟨H', c', R, W, h⟩ := valOf (show (callN Tryz.prog idle0 0 1000 noSums 20 38 [.agg #[.int .i64 18, .int .i64 k, .int .i64 d, .int .i64 a, .int .i64 b, .int .i64 c, .int .i64 p, .int .i64 n, .int .i64 m]] .nil 0).map (·.v) = some (.tuple #[.agg #[.string ⟨#[116, 114]⟩, .bool true, .int .i64 4, .int .i64 1, .int .i64 1, .int .i64 3, .int .i64 5, .int .i64 5, .bool false], .bool true]) by kernel_rfl)
  exact call_closed names_ok mixed idle0_ok noSums_ok h rfl rfl w
theorem form_19 (k d a b c p n m : Int) (w : World) : Calls Tryz.prog 38 #[.agg #[.int .i64 19, .int .i64 k, .int .i64 d, .int .i64 a, .int .i64 b, .int .i64 c, .int .i64 p, .int .i64 n, .int .i64 m]] w fun e w' => e = .returned (.tuple #[.agg #[.string ⟨#[119, 97, 105, 116]⟩, .bool false, .int .i64 4, .int .i64 0, .int .i64 0, .int .i64 0, .int .i64 0, .int .i64 0, .bool false], .bool true]) ∧ Below w.heap.size w w' := by
  obtain ⟨H', c', R, W, h⟩ := valOf (show (callN Tryz.prog idle0 0 1000 noSums 20 38 [.agg #[.int .i64 19, .int .i64 k, .int .i64 d, .int .i64 a, .int .i64 b, .int .i64 c, .int .i64 p, .int .i64 n, .int .i64 m]] .nil 0).map (·.v) = some (.tuple #[.agg #[.string ⟨#[119, 97, 105, 116]⟩, .bool false, .int .i64 4, .int .i64 0, .int .i64 0, .int .i64 0, .int .i64 0, .int .i64 0, .bool false], .bool true]) by kernel_rfl)
  exact call_closed names_ok mixed idle0_ok noSums_ok h rfl rfl w
/-- operations of an instruction that formOf knows, at numbers that this text has computed -/
def Known (x : Ins) : Prop := (x.op = 2 ∨ x.op = 11) → x.k = 0 ∨ (4 ≤ x.k ∧ x.k ≤ 15)
theorem form_any (w : World) (x : Ins) (f : Frm) (h : formF x.op x.k = some f) (hk : Known x) : Calls Tryz.prog 38 #[.agg x.cells] w fun e w' => e = .returned (.tuple #[.agg f.cells, .bool true]) ∧ Below w.heap.size w w' := by
  obtain ⟨op, k, d, a, b, c, p, n, m⟩ := x
  unfold Known at hk
  dsimp only at h hk
  have ho := form_op h
  rcases (show op = 1 ∨ op = 2 ∨ op = 3 ∨ op = 4 ∨ op = 5 ∨ op = 6 ∨ op = 7 ∨ op = 8 ∨ op = 9 ∨ op = 10 ∨ op = 11 ∨ op = 12 ∨ op = 13 ∨ op = 14 ∨ op = 15 ∨ op = 16 ∨ op = 17 ∨ op = 18 ∨ op = 19 by omega) with rfl | rfl | rfl | rfl | rfl | rfl | rfl | rfl | rfl | rfl | rfl | rfl | rfl | rfl | rfl | rfl | rfl | rfl | rfl
  · obtain rfl : f = ⟨[110, 117, 109], false, 1, 0, 0, 0, 5, 0, true⟩ := by injection h with h; exact h.symm
    exact form_1 k d a b c p n m w
  · rcases (show k = 0 ∨ k = 4 ∨ k = 5 ∨ k = 6 ∨ k = 7 ∨ k = 8 ∨ k = 9 ∨ k = 10 ∨ k = 11 ∨ k = 12 ∨ k = 13 ∨ k = 14 ∨ k = 15 by omega) with rfl | rfl | rfl | rfl | rfl | rfl | rfl | rfl | rfl | rfl | rfl | rfl | rfl
    · obtain rfl : f = ⟨[111, 112], true, 1, 1, 0, 0, 0, 0, true⟩ := by injection h with h; exact h.symm
      exact form_2_0 d a b c p n m w
    · obtain rfl : f = ⟨[111, 112], true, 1, 1, 1, 0, 0, 0, true⟩ := by injection h with h; exact h.symm
      exact form_2_4 d a b c p n m w
    · obtain rfl : f = ⟨[111, 112], true, 1, 1, 1, 0, 0, 0, true⟩ := by injection h with h; exact h.symm
      exact form_2_5 d a b c p n m w
    · obtain rfl : f = ⟨[111, 112], true, 1, 1, 1, 0, 0, 0, true⟩ := by injection h with h; exact h.symm
      exact form_2_6 d a b c p n m w
    · obtain rfl : f = ⟨[111, 112], true, 1, 1, 1, 0, 0, 0, true⟩ := by injection h with h; exact h.symm
      exact form_2_7 d a b c p n m w
    · obtain rfl : f = ⟨[111, 112], true, 1, 1, 1, 0, 0, 0, true⟩ := by injection h with h; exact h.symm
      exact form_2_8 d a b c p n m w
    · obtain rfl : f = ⟨[111, 112], true, 1, 1, 1, 0, 0, 0, true⟩ := by injection h with h; exact h.symm
      exact form_2_9 d a b c p n m w
    · obtain rfl : f = ⟨[111, 112], true, 1, 1, 1, 0, 0, 0, true⟩ := by injection h with h; exact h.symm
      exact form_2_10 d a b c p n m w
    · obtain rfl : f = ⟨[111, 112], true, 1, 1, 0, 0, 0, 0, true⟩ := by injection h with h; exact h.symm
      exact form_2_11 d a b c p n m w
    · obtain rfl : f = ⟨[111, 112], true, 1, 1, 0, 0, 5, 5, true⟩ := by injection h with h; exact h.symm
      exact form_2_12 d a b c p n m w
    · obtain rfl : f = ⟨[111, 112], true, 1, 1, 0, 0, 5, 0, true⟩ := by injection h with h; exact h.symm
      exact form_2_13 d a b c p n m w
    · obtain rfl : f = ⟨[111, 112], true, 1, 1, 0, 0, 5, 0, true⟩ := by injection h with h; exact h.symm
      exact form_2_14 d a b c p n m w
    · obtain rfl : f = ⟨[111, 112], true, 1, 1, 1, 1, 0, 0, true⟩ := by injection h with h; exact h.symm
      exact form_2_15 d a b c p n m w
  · obtain rfl : f = ⟨[108, 111, 111, 112], false, 1, 0, 0, 5, 5, 5, false⟩ := by injection h with h; exact h.symm
    exact form_3 k d a b c p n m w
  · obtain rfl : f = ⟨[101, 110, 100], false, 0, 0, 0, 0, 0, 0, false⟩ := by injection h with h; exact h.symm
    exact form_4 k d a b c p n m w
  · obtain rfl : f = ⟨[108, 100, 109], false, 1, 1, 0, 0, 5, 0, true⟩ := by injection h with h; exact h.symm
    exact form_5 k d a b c p n m w
  · obtain rfl : f = ⟨[115, 116, 109], false, 0, 1, 1, 0, 5, 0, true⟩ := by injection h with h; exact h.symm
    exact form_6 k d a b c p n m w
  · obtain rfl : f = ⟨[108, 100, 115], false, 1, 1, 0, 3, 5, 0, true⟩ := by injection h with h; exact h.symm
    exact form_7 k d a b c p n m w
  · obtain rfl : f = ⟨[115, 116, 115], false, 0, 1, 1, 3, 5, 0, true⟩ := by injection h with h; exact h.symm
    exact form_8 k d a b c p n m w
  · obtain rfl : f = ⟨[118, 108, 100], false, 2, 1, 0, 3, 5, 0, false⟩ := by injection h with h; exact h.symm
    exact form_9 k d a b c p n m w
  · obtain rfl : f = ⟨[118, 115, 116], false, 0, 1, 2, 3, 5, 0, false⟩ := by injection h with h; exact h.symm
    exact form_10 k d a b c p n m w
  · rcases (show k = 0 ∨ k = 4 ∨ k = 5 ∨ k = 6 ∨ k = 7 ∨ k = 8 ∨ k = 9 ∨ k = 10 ∨ k = 11 ∨ k = 12 ∨ k = 13 ∨ k = 14 ∨ k = 15 by omega) with rfl | rfl | rfl | rfl | rfl | rfl | rfl | rfl | rfl | rfl | rfl | rfl | rfl
    · obtain rfl : f = ⟨[118, 111, 112], true, 2, 2, 0, 0, 0, 0, false⟩ := by injection h with h; exact h.symm
      exact form_11_0 d a b c p n m w
    · obtain rfl : f = ⟨[118, 111, 112], true, 2, 2, 2, 0, 0, 0, false⟩ := by injection h with h; exact h.symm
      exact form_11_4 d a b c p n m w
    · obtain rfl : f = ⟨[118, 111, 112], true, 2, 2, 2, 0, 0, 0, false⟩ := by injection h with h; exact h.symm
      exact form_11_5 d a b c p n m w
    · obtain rfl : f = ⟨[118, 111, 112], true, 2, 2, 2, 0, 0, 0, false⟩ := by injection h with h; exact h.symm
      exact form_11_6 d a b c p n m w
    · obtain rfl : f = ⟨[118, 111, 112], true, 2, 2, 2, 0, 0, 0, false⟩ := by injection h with h; exact h.symm
      exact form_11_7 d a b c p n m w
    · obtain rfl : f = ⟨[118, 111, 112], true, 2, 2, 2, 0, 0, 0, false⟩ := by injection h with h; exact h.symm
      exact form_11_8 d a b c p n m w
    · obtain rfl : f = ⟨[118, 111, 112], true, 2, 2, 2, 0, 0, 0, false⟩ := by injection h with h; exact h.symm
      exact form_11_9 d a b c p n m w
    · obtain rfl : f = ⟨[118, 111, 112], true, 2, 2, 2, 0, 0, 0, false⟩ := by injection h with h; exact h.symm
      exact form_11_10 d a b c p n m w
    · obtain rfl : f = ⟨[118, 111, 112], true, 2, 2, 0, 0, 0, 0, false⟩ := by injection h with h; exact h.symm
      exact form_11_11 d a b c p n m w
    · obtain rfl : f = ⟨[118, 111, 112], true, 2, 2, 0, 0, 5, 5, false⟩ := by injection h with h; exact h.symm
      exact form_11_12 d a b c p n m w
    · obtain rfl : f = ⟨[118, 111, 112], true, 2, 2, 0, 0, 5, 0, false⟩ := by injection h with h; exact h.symm
      exact form_11_13 d a b c p n m w
    · obtain rfl : f = ⟨[118, 111, 112], true, 2, 2, 0, 0, 5, 0, false⟩ := by injection h with h; exact h.symm
      exact form_11_14 d a b c p n m w
    · obtain rfl : f = ⟨[118, 111, 112], true, 2, 2, 2, 2, 0, 0, false⟩ := by injection h with h; exact h.symm
      exact form_11_15 d a b c p n m w
  · obtain rfl : f = ⟨[118, 100, 117, 112], false, 2, 1, 0, 0, 0, 0, false⟩ := by injection h with h; exact h.symm
    exact form_12 k d a b c p n m w
  · obtain rfl : f = ⟨[118, 103, 101, 116], false, 1, 2, 0, 0, 5, 0, false⟩ := by injection h with h; exact h.symm
    exact form_13 k d a b c p n m w
  · obtain rfl : f = ⟨[119, 116, 115], false, 0, 1, 0, 3, 5, 5, false⟩ := by injection h with h; exact h.symm
    exact form_14 k d a b c p n m w
  · obtain rfl : f = ⟨[109, 97, 99], false, 0, 2, 0, 0, 0, 0, false⟩ := by injection h with h; exact h.symm
    exact form_15 k d a b c p n m w
  · obtain rfl : f = ⟨[99, 108, 114], false, 0, 0, 0, 0, 0, 0, false⟩ := by injection h with h; exact h.symm
    exact form_16 k d a b c p n m w
  · obtain rfl : f = ⟨[97, 99, 99], false, 2, 0, 0, 0, 0, 0, false⟩ := by injection h with h; exact h.symm
    exact form_17 k d a b c p n m w
  · obtain rfl : f = ⟨[116, 114], true, 4, 1, 1, 3, 5, 5, false⟩ := by injection h with h; exact h.symm
    exact form_18 k d a b c p n m w
  · obtain rfl : f = ⟨[119, 97, 105, 116], false, 4, 0, 0, 0, 0, 0, false⟩ := by injection h with h; exact h.symm
    exact form_19 k d a b c p n m w
end Go.Proofs.YtpcejpcbkjnlkaaGreatDoor.AE

/- form.unused: no field that an instruction does not use holds a number. Printed by gen_chip8.py. -/
import Derived.Test.YtpcejpcbkjnlkaaGreatDoorZa17
set_option linter.unusedVariables false
namespace Go.Proofs.YtpcejpcbkjnlkaaGreatDoor
open Go.RowKit

set_option maxRecDepth 100000 in
set_option maxHeartbeats 8000000 in
theorem unused_cells (wd : List UInt8) (fk : Bool) (fd fa fb fc fn fm : Int) (fp : Bool) (op k d a b c p n m : Int) (hk : fk = false → k = 0) (hp : fp = false → p = 0) (h0 : (fd = 0 → d = 0) ∧ (fa = 0 → a = 0) ∧ (fb = 0 → b = 0) ∧ (fc = 0 → c = 0) ∧ (fn = 0 → n = 0) ∧ (fm = 0 → m = 0)) (w : World) :
    Calls Tryz.prog 39 #[.agg #[.string ⟨wd.toArray⟩, .bool fk, .int .i64 fd, .int .i64 fa, .int .i64 fb, .int .i64 fc, .int .i64 fn, .int .i64 fm, .bool fp], .agg #[.int .i64 op, .int .i64 k, .int .i64 d, .int .i64 a, .int .i64 b, .int .i64 c, .int .i64 p, .int .i64 n, .int .i64 m]] w fun e w' => e = .returned (.bool false) ∧ Below w.heap.size w w' := by
  obtain ⟨W0, hW0⟩ : ∃ W0, W0 = (((w.alloc (.cells #[.string ⟨wd.toArray⟩, .bool fk, .int .i64 fd, .int .i64 fa, .int .i64 fb, .int .i64 fc, .int .i64 fn, .int .i64 fm, .bool fp] 104)).alloc (.cells #[.int .i64 op, .int .i64 k, .int .i64 d, .int .i64 a, .int .i64 b, .int .i64 c, .int .i64 p, .int .i64 n, .int .i64 m] 44)).alloc (.cells #[.int .i64 fd, .int .i64 d, .int .i64 fa, .int .i64 a, .int .i64 fb, .int .i64 b, .int .i64 fc, .int .i64 c, .int .i64 fn, .int .i64 n, .int .i64 fm, .int .i64 m] 187)) := ⟨_, rfl⟩
  have HB0 : Hid (Below w.heap.size w W0) := Lib.hid (by rw [hW0]; exact (((Below.refl _ _).alloc (Nat.le_refl _) _).alloc (by simp) _).alloc (by simp; omega) _)
  have HK0 : Hid (Blk W0 (w.heap.size + 2) 187 #[.int .i64 fd, .int .i64 d, .int .i64 fa, .int .i64 a, .int .i64 fb, .int .i64 b, .int .i64 fc, .int .i64 c, .int .i64 fn, .int .i64 n, .int .i64 fm, .int .i64 m]) := Lib.hid (by rw [hW0]; have := Blk.new ((w.alloc (.cells #[.string ⟨wd.toArray⟩, .bool fk, .int .i64 fd, .int .i64 fa, .int .i64 fb, .int .i64 fc, .int .i64 fn, .int .i64 fm, .bool fp] 104)).alloc (.cells #[.int .i64 op, .int .i64 k, .int .i64 d, .int .i64 a, .int .i64 b, .int .i64 c, .int .i64 p, .int .i64 n, .int .i64 m] 44)) 187 #[.int .i64 fd, .int .i64 d, .int .i64 fa, .int .i64 a, .int .i64 fb, .int .i64 b, .int .i64 fc, .int .i64 c, .int .i64 fn, .int .i64 n, .int .i64 fm, .int .i64 m]; simpa using this)
  have HW0 := Lib.hid hW0
  have H0 := Lib.hid h0
  clear hW0 h0
  cases fk <;> cases fp
  all_goals
    (try obtain rfl : k = 0 := hk rfl)
    (try obtain rfl : p = 0 := hp rfl)
    clear hk hp
    go_enter Tryz.func39, Tryz.ntmps39
    go_upto_region 3 with (fail)
    rw [← HW0.out]
    clear HW0
    go_loopw [5, 58] (fun ex i wr => ∃ j : Nat, j ≤ 6 ∧ i = .int .i64 j ∧ ex = .bool false ∧ Below W0.heap.size W0 wr) (fun _ i _ => 6 - (intOf i).toNat)
    case atStart => exact ⟨0, by omega, rfl, rfl, Below.refl _ _⟩
    obtain ⟨j, hj, rfl, rfl, hbr⟩ := hrel
    have HBR := Lib.hid hbr
    have z0 : W0.heap.size ≤ wr.heap.size := hbr.size
    have k3 := HK0.out.below hbr HK0.out.lt
    clear hbr
    rcases (show j = 0 ∨ j = 1 ∨ j = 2 ∨ j = 3 ∨ j = 4 ∨ j = 5 ∨ j = 6 by omega) with rfl | rfl | rfl | rfl | rfl | rfl | rfl
    · have z3 := k3.lt
      have d0 : wr.cell? ⟨w.heap.size + 2, 0, none⟩ = some (.int .i64 fd) := k3.cell 0
      have d1 : wr.cell? ⟨w.heap.size + 2, 1, none⟩ = some (.int .i64 d) := k3.cell 1
      clear k3
      by_cases hz : fd = 0
      · rw [hz] at d0
        rw [H0.out.1 hz] at d1
        go_wp2_with fail
        go_roundw
        case rel => exact ⟨1, by omega, by go_num, rfl, HBR.out.alloc z0 _⟩
        case measure => simp [intOf]
      · have hz' : (fd == 0) = false := by simpa using hz
        clear hz
        go_wp2_with fail
        go_roundw
        case rel => exact ⟨1, by omega, by go_num, rfl, HBR.out.alloc z0 _⟩
        case measure => simp [intOf]
    · have z3 := k3.lt
      have d0 : wr.cell? ⟨w.heap.size + 2, 2, none⟩ = some (.int .i64 fa) := k3.cell 2
      have d1 : wr.cell? ⟨w.heap.size + 2, 3, none⟩ = some (.int .i64 a) := k3.cell 3
      clear k3
      by_cases hz : fa = 0
      · rw [hz] at d0
        rw [H0.out.2.1 hz] at d1
        go_wp2_with fail
        go_roundw
        case rel => exact ⟨2, by omega, by go_num, rfl, HBR.out.alloc z0 _⟩
        case measure => simp [intOf]
      · have hz' : (fa == 0) = false := by simpa using hz
        clear hz
        go_wp2_with fail
        go_roundw
        case rel => exact ⟨2, by omega, by go_num, rfl, HBR.out.alloc z0 _⟩
        case measure => simp [intOf]
    · have z3 := k3.lt
      have d0 : wr.cell? ⟨w.heap.size + 2, 4, none⟩ = some (.int .i64 fb) := k3.cell 4
      have d1 : wr.cell? ⟨w.heap.size + 2, 5, none⟩ = some (.int .i64 b) := k3.cell 5
      clear k3
      by_cases hz : fb = 0
      · rw [hz] at d0
        rw [H0.out.2.2.1 hz] at d1
        go_wp2_with fail
        go_roundw
        case rel => exact ⟨3, by omega, by go_num, rfl, HBR.out.alloc z0 _⟩
        case measure => simp [intOf]
      · have hz' : (fb == 0) = false := by simpa using hz
        clear hz
        go_wp2_with fail
        go_roundw
        case rel => exact ⟨3, by omega, by go_num, rfl, HBR.out.alloc z0 _⟩
        case measure => simp [intOf]
    · have z3 := k3.lt
      have d0 : wr.cell? ⟨w.heap.size + 2, 6, none⟩ = some (.int .i64 fc) := k3.cell 6
      have d1 : wr.cell? ⟨w.heap.size + 2, 7, none⟩ = some (.int .i64 c) := k3.cell 7
      clear k3
      by_cases hz : fc = 0
      · rw [hz] at d0
        rw [H0.out.2.2.2.1 hz] at d1
        go_wp2_with fail
        go_roundw
        case rel => exact ⟨4, by omega, by go_num, rfl, HBR.out.alloc z0 _⟩
        case measure => simp [intOf]
      · have hz' : (fc == 0) = false := by simpa using hz
        clear hz
        go_wp2_with fail
        go_roundw
        case rel => exact ⟨4, by omega, by go_num, rfl, HBR.out.alloc z0 _⟩
        case measure => simp [intOf]
    · have z3 := k3.lt
      have d0 : wr.cell? ⟨w.heap.size + 2, 8, none⟩ = some (.int .i64 fn) := k3.cell 8
      have d1 : wr.cell? ⟨w.heap.size + 2, 9, none⟩ = some (.int .i64 n) := k3.cell 9
      clear k3
      by_cases hz : fn = 0
      · rw [hz] at d0
        rw [H0.out.2.2.2.2.1 hz] at d1
        go_wp2_with fail
        go_roundw
        case rel => exact ⟨5, by omega, by go_num, rfl, HBR.out.alloc z0 _⟩
        case measure => simp [intOf]
      · have hz' : (fn == 0) = false := by simpa using hz
        clear hz
        go_wp2_with fail
        go_roundw
        case rel => exact ⟨5, by omega, by go_num, rfl, HBR.out.alloc z0 _⟩
        case measure => simp [intOf]
    · have z3 := k3.lt
      have d0 : wr.cell? ⟨w.heap.size + 2, 10, none⟩ = some (.int .i64 fm) := k3.cell 10
      have d1 : wr.cell? ⟨w.heap.size + 2, 11, none⟩ = some (.int .i64 m) := k3.cell 11
      clear k3
      by_cases hz : fm = 0
      · rw [hz] at d0
        rw [H0.out.2.2.2.2.2 hz] at d1
        go_wp2_with fail
        go_roundw
        case rel => exact ⟨6, by omega, by go_num, rfl, HBR.out.alloc z0 _⟩
        case measure => simp [intOf]
      · have hz' : (fm == 0) = false := by simpa using hz
        clear hz
        go_wp2_with fail
        go_roundw
        case rel => exact ⟨6, by omega, by go_num, rfl, HBR.out.alloc z0 _⟩
        case measure => simp [intOf]
    · clear k3
      go_wp2_with fail
      go_ret
      exact ⟨rfl, HB0.out.trans (HBR.out.mono HB0.out.size)⟩
end Go.Proofs.YtpcejpcbkjnlkaaGreatDoor

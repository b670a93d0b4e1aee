/- New, with a configuration out of range. -/
import Derived.Test.YtedkfehdfmimoaaGreatKc26
import Derived.Test.YtedkfehdfmimoaaGreatKc23
import Derived.BigRegion
namespace Go.Proofs.YtedkfehdfmimoaaGreat
open Go.RowKit

theorem within_b (n lo hi : Int) (b : Bool) (h : win n lo hi = b) (w : World) : Calls Tryz.prog 28 #[.int .i64 n, .int .i64 lo, .int .i64 hi] w fun e w' => e = .returned (.bool b) ∧ w = w' := by
  rw [← h]
  exact swithin_any n lo hi w
set_option maxRecDepth 100000 in
set_option maxHeartbeats 2000000 in
theorem new_bad (w : World) (T : Nat → Prop) (M : Model) (v4 v5 v6 v7 v8 v9 v10 : Value) (h : MSl w T M v4 v5 v6 v7 v8 v9 v10) (hM : M.Ok) (p q b u : Int)
    (hbad : (win p 1 64 && win q 1 8 && win b 1 16 && win u 1 32) = false) :
    Calls Tryz.prog 7 #[.agg #[.int .i64 M.kind, .int .i64 M.vocab, .int .i64 M.width, .int .i64 M.top, v4, v5, v6, v7, v8, v9, v10], .agg #[.int .i64 p, .int .i64 q, .int .i64 b, .int .i64 u]] w fun e w' => e = .returned (.tuple #[.pointer none, .int .i64 9]) ∧ Below w.heap.size w w' := by
  have hb0 : Below w.heap.size w ((w.alloc (.cells #[.int .i64 M.kind, .int .i64 M.vocab, .int .i64 M.width, .int .i64 M.top, v4, v5, v6, v7, v8, v9, v10] 27)).alloc (.cells #[.int .i64 p, .int .i64 q, .int .i64 b, .int .i64 u] 30)) := ((Below.refl _ _).alloc (Nat.le_refl _) _).alloc (by simp) _
  have kc := Blk.new (w.alloc (.cells #[.int .i64 M.kind, .int .i64 M.vocab, .int .i64 M.width, .int .i64 M.top, v4, v5, v6, v7, v8, v9, v10] 27)) 30 #[.int .i64 p, .int .i64 q, .int .i64 b, .int .i64 u]
  rw [show (w.alloc (.cells #[.int .i64 M.kind, .int .i64 M.vocab, .int .i64 M.width, .int .i64 M.top, v4, v5, v6, v7, v8, v9, v10] 27)).heap.size = w.heap.size + 1 by simp] at kc
  have HVO := Lib.hid (vocab_any _ _ M v4 v5 v6 v7 v8 v9 v10 (h.fresh hb0) hM)
  have HB0 := Lib.hid hb0
  have KC := Lib.hid kc
  clear h hM hb0 kc
  go_enter Tryz.func7, Tryz.ntmps7
  go_wp2_with fail
  refine HVO.out.mono ?_
  rintro e w1 ⟨rfl, hb1⟩
  have kc1 := KC.out.below hb1 (by simp)
  have e0 : w1.cell? ⟨w.heap.size + 1, 0, none⟩ = some (.int .i64 p) := kc1.cell 0
  have e1 : w1.cell? ⟨w.heap.size + 1, 1, none⟩ = some (.int .i64 q) := kc1.cell 1
  have e2 : w1.cell? ⟨w.heap.size + 1, 2, none⟩ = some (.int .i64 b) := kc1.cell 2
  have e3 : w1.cell? ⟨w.heap.size + 1, 3, none⟩ = some (.int .i64 u) := kc1.cell 3
  have HB1 := Lib.hid (HB0.out.trans (hb1.mono HB0.out.size))
  clear hb1 kc1
  cases h1 : win p 1 64 with
  | false =>
    have HW1 := Lib.hid h1
    clear h1 hbad
    go_wp2_with ((go_at_call 28; refine (swithin_any _ _ _ _).mono ?_; rintro e w' ⟨rfl, rfl⟩; first | rw [HW1.out]))
    go_ret2
    exact ⟨rfl, HB1.out⟩
  | true =>
    rw [h1] at hbad
    have HW1 := Lib.hid h1
    clear h1
    cases h2 : win q 1 8 with
    | false =>
      have HW2 := Lib.hid h2
      clear h2 hbad
      go_wp2_with ((go_at_call 28; refine (swithin_any _ _ _ _).mono ?_; rintro e w' ⟨rfl, rfl⟩; first | rw [HW1.out] | rw [HW2.out]))
      go_ret2
      exact ⟨rfl, HB1.out⟩
    | true =>
      rw [h2] at hbad
      have HW2 := Lib.hid h2
      clear h2
      cases h3 : win b 1 16 with
      | false =>
        have HW3 := Lib.hid h3
        clear h3 hbad
        go_wp2_with ((go_at_call 28; refine (swithin_any _ _ _ _).mono ?_; rintro e w' ⟨rfl, rfl⟩; first | rw [HW1.out] | rw [HW2.out] | rw [HW3.out]))
        go_ret2
        exact ⟨rfl, HB1.out⟩
      | true =>
        rw [h3] at hbad
        have HW3 := Lib.hid h3
        clear h3
        cases h4 : win u 1 32 with
        | false =>
          have HW4 := Lib.hid h4
          clear h4 hbad
          go_wp2_with ((go_at_call 28; refine (swithin_any _ _ _ _).mono ?_; rintro e w' ⟨rfl, rfl⟩; first | rw [HW1.out] | rw [HW2.out] | rw [HW3.out] | rw [HW4.out]))
          go_ret2
          exact ⟨rfl, HB1.out⟩
        | true => rw [h4] at hbad; cases hbad
end Go.Proofs.YtedkfehdfmimoaaGreat

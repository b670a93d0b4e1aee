/- coder.op: an operation of a kind of instruction. -/
import Derived.Test.YtpcejpcbkjnlkaaGreatDoorZa22
import Derived.Deep.CutBlock
set_option linter.unusedVariables false
namespace Go.Proofs.YtpcejpcbkjnlkaaGreatDoor
open Go.RowKit

theorem keeps9' (w : World) (g : Nat) (a0 a1 a2 a3 a4 a5 a6 a7 a8 : Value) : Keeps (· = g) w (((((((((w.setCell ⟨g, 0, none⟩ a0).setCell ⟨g, 1, none⟩ a1).setCell ⟨g, 2, none⟩ a2).setCell ⟨g, 3, none⟩ a3).setCell ⟨g, 4, none⟩ a4).setCell ⟨g, 5, none⟩ a5).setCell ⟨g, 6, none⟩ a6).setCell ⟨g, 7, none⟩ a7).setCell ⟨g, 8, none⟩ a8) :=
  Keeps.setCell (p := ⟨g, 8, none⟩) (Keeps.setCell (p := ⟨g, 7, none⟩) (Keeps.setCell (p := ⟨g, 6, none⟩) (Keeps.setCell (p := ⟨g, 5, none⟩) (keeps5' w g a0 a1 a2 a3 a4) (fun _ => rfl) _) (fun _ => rfl) _) (fun _ => rfl) _) (fun _ => rfl) _
theorem blk9' (w : World) (g : Nat) (t : TypeId) (b0 b1 b2 b3 b4 b5 b6 b7 b8 a0 a1 a2 a3 a4 a5 a6 a7 a8 : Value) (h : Blk w g t #[b0, b1, b2, b3, b4, b5, b6, b7, b8]) :
    Blk (((((((((w.setCell ⟨g, 0, none⟩ a0).setCell ⟨g, 1, none⟩ a1).setCell ⟨g, 2, none⟩ a2).setCell ⟨g, 3, none⟩ a3).setCell ⟨g, 4, none⟩ a4).setCell ⟨g, 5, none⟩ a5).setCell ⟨g, 6, none⟩ a6).setCell ⟨g, 7, none⟩ a7).setCell ⟨g, 8, none⟩ a8) g t #[a0, a1, a2, a3, a4, a5, a6, a7, a8] := by
  have h : Blk (w.setCell ⟨g, 0, none⟩ a0) g t #[a0, b1, b2, b3, b4, b5, b6, b7, b8] := h.set_ 0 a0
  have h : Blk ((w.setCell ⟨g, 0, none⟩ a0).setCell ⟨g, 1, none⟩ a1) g t #[a0, a1, b2, b3, b4, b5, b6, b7, b8] := h.set_ 1 a1
  have h : Blk (((w.setCell ⟨g, 0, none⟩ a0).setCell ⟨g, 1, none⟩ a1).setCell ⟨g, 2, none⟩ a2) g t #[a0, a1, a2, b3, b4, b5, b6, b7, b8] := h.set_ 2 a2
  have h : Blk ((((w.setCell ⟨g, 0, none⟩ a0).setCell ⟨g, 1, none⟩ a1).setCell ⟨g, 2, none⟩ a2).setCell ⟨g, 3, none⟩ a3) g t #[a0, a1, a2, a3, b4, b5, b6, b7, b8] := h.set_ 3 a3
  have h : Blk (((((w.setCell ⟨g, 0, none⟩ a0).setCell ⟨g, 1, none⟩ a1).setCell ⟨g, 2, none⟩ a2).setCell ⟨g, 3, none⟩ a3).setCell ⟨g, 4, none⟩ a4) g t #[a0, a1, a2, a3, a4, b5, b6, b7, b8] := h.set_ 4 a4
  have h : Blk ((((((w.setCell ⟨g, 0, none⟩ a0).setCell ⟨g, 1, none⟩ a1).setCell ⟨g, 2, none⟩ a2).setCell ⟨g, 3, none⟩ a3).setCell ⟨g, 4, none⟩ a4).setCell ⟨g, 5, none⟩ a5) g t #[a0, a1, a2, a3, a4, a5, b6, b7, b8] := h.set_ 5 a5
  have h : Blk (((((((w.setCell ⟨g, 0, none⟩ a0).setCell ⟨g, 1, none⟩ a1).setCell ⟨g, 2, none⟩ a2).setCell ⟨g, 3, none⟩ a3).setCell ⟨g, 4, none⟩ a4).setCell ⟨g, 5, none⟩ a5).setCell ⟨g, 6, none⟩ a6) g t #[a0, a1, a2, a3, a4, a5, a6, b7, b8] := h.set_ 6 a6
  have h : Blk ((((((((w.setCell ⟨g, 0, none⟩ a0).setCell ⟨g, 1, none⟩ a1).setCell ⟨g, 2, none⟩ a2).setCell ⟨g, 3, none⟩ a3).setCell ⟨g, 4, none⟩ a4).setCell ⟨g, 5, none⟩ a5).setCell ⟨g, 6, none⟩ a6).setCell ⟨g, 7, none⟩ a7) g t #[a0, a1, a2, a3, a4, a5, a6, a7, b8] := h.set_ 7 a7
  exact h.set_ 8 a8
set_option maxRecDepth 100000 in
set_option maxHeartbeats 8000000 in
theorem op_any (w : World) {B p q : Nat} {A : Option Addr} {n c : Nat} {l : List Int} {a : Int} {m : Mach} {st : Int} {v : Value} {xs : List Ins} (h : Cod w B p q A n c l a m st v xs) (ha : a ≤ 1000000) (kind regs : Int) (hr1 : 2 ≤ regs) (hr2 : regs ≤ 16) :
    Calls Tryz.prog 34 #[.pointer (some ⟨q, 0, none⟩), .int .i64 kind, .int .i64 regs] w fun e w' => ∃ (x : Ins) (a' : Int), e = .returned (.agg x.cells) ∧ OpGen kind regs x ∧ a ≤ a' ∧ a' ≤ a + 8 ∧ Cod w' B p q A n c l a' m st v xs ∧ Keeps (· = p) w w' := by
  have hpB := h.pB
  have hql := h.blk.lt
  have hqB := h.Bq
  have HVL := Lib.hid (fun g (e : v.ownBlock = some g) => h.own.lt e)
  have HK6 := Lib.hid (Blk.new w 44 #[.int .i64 0, .int .i64 0, .int .i64 0, .int .i64 0, .int .i64 0, .int .i64 0, .int .i64 0, .int .i64 0, .int .i64 0])
  have HC := Lib.hid (h.alloc (.cells #[.int .i64 0, .int .i64 0, .int .i64 0, .int .i64 0, .int .i64 0, .int .i64 0, .int .i64 0, .int .i64 0, .int .i64 0] 44))
  have HP := Lib.hid ((Keeps.refl (· = p) w).alloc (.cells #[.int .i64 0, .int .i64 0, .int .i64 0, .int .i64 0, .int .i64 0, .int .i64 0, .int .i64 0, .int .i64 0, .int .i64 0] 44))
  have z0 : w.heap.size < (w.alloc (.cells #[.int .i64 0, .int .i64 0, .int .i64 0, .int .i64 0, .int .i64 0, .int .i64 0, .int .i64 0, .int .i64 0, .int .i64 0] 44)).heap.size := by simp
  clear h
  go_enter Tryz.func34, Tryz.ntmps34
  go_upto_region 1 with (fail)
  generalize w.alloc (.cells #[.int .i64 0, .int .i64 0, .int .i64 0, .int .i64 0, .int .i64 0, .int .i64 0, .int .i64 0, .int .i64 0, .int .i64 0] 44) = W at *
  refine op_r1 W HC.out (by omega) (by omega) kind regs hr1 hr2 _ ?_
  intro w1 y8 y9 y10 y11 y12 y13 y14 y15 y16 y17 y18 y19 y20 y21 y22 y23 y24 y25 y26 y27 g y1 y2 y3 a1 hc1 hb1 i1 i2 i3 g1 g1' gg kk
  have HS := Lib.hid (show OpS w w1 B p q A n c l a1 m st v xs w.heap.size g ⟨kind, y1, y2, y3, 0, 0, 0, 0, 0⟩ from ⟨hc1, kk.blk HK6.out (by omega), hb1, HP.out.tr kk, Nat.le_refl _, by omega, by omega⟩)
  have d1 : w1.cell? ⟨g, 1, none⟩ = some (.int .i64 y1) := hb1.cell 1
  have HI := Lib.hid (show (4 ≤ y1 ∧ y1 ≤ 15) ∧ (1 ≤ y2 ∧ y2 < regs) ∧ (0 ≤ y3 ∧ y3 < regs) by omega)
  obtain ⟨i1, j1⟩ := i1
  obtain ⟨i2, j2⟩ := i2
  obtain ⟨i3, j3⟩ := i3
  clear hc1 hb1 kk HC HK6 HP
  go_wp2_with fail
  refine (operands_any y1 w1).mono ?_
  rintro e w2 ⟨rfl, rfl⟩
  clear d1
  go_upto_if 31 with (fail)
  go_cut [] (fun wc => ∃ (b2 a2 : Int), OpS w wc B p q A n c l a2 m st v xs w.heap.size g ⟨kind, y1, y2, y3, b2, 0, 0, 0, 0⟩ ∧ ((1 < operandsF y1 ∧ 0 ≤ b2 ∧ b2 < regs) ∨ (operandsF y1 ≤ 1 ∧ b2 = 0)) ∧ a ≤ a2 ∧ a2 ≤ a + 4)
  case first =>
    by_cases t : 1 < operandsF y1
    · have c0 : w1.cell? ⟨q, 0, none⟩ = some (.pointer (some ⟨p, 0, none⟩)) := HS.out.cod.blk.cell 0
      have T := Lib.hid t
      go_wp2_with fail
      refine (next_any w1 p A n c l a1 regs HS.out.cod.str (by omega) (by omega)).mono ?_
      rintro e w2 ⟨b2, a2, rfl, ⟨x1, x2, -⟩, z1, z2, hs2, k2⟩
      have x2 := x2 (by omega)
      have HS2 := Lib.hid (HS.out.moved hs2 k2)
      have d4 : w2.cell? ⟨g, 4, none⟩ = some (.int .i64 0) := HS2.out.k7.cell 4
      have f4 := HS2.out.k7.frozen 4
      clear hs2 k2 c0 HS
      go_wp2_with fail
      go_meet
      case rel => exact ⟨b2, a2, HS2.out.set 4 (.int .i64 b2) ⟨kind, y1, y2, y3, b2, 0, 0, 0, 0⟩ rfl hql HVL.out, Or.inl ⟨T.out, x1, x2⟩, by omega, by omega⟩
    · have T := Lib.hid t
      go_wp2_with fail
      go_meet
      case rel => exact ⟨0, a1, HS.out, Or.inr ⟨by have := T.out; omega, rfl⟩, by omega, by omega⟩
  case rest =>
    obtain ⟨b2, a2, hS, hB, g2, g2'⟩ := hcut
    have HB := Lib.hid hB
    have HS := Lib.hid hS
    have d1 : wc.cell? ⟨g, 1, none⟩ = some (.int .i64 y1) := hS.k7.cell 1
    clear hS hB
    go_wp2_with fail
    refine (operands_any y1 wc).mono ?_
    rintro e w2 ⟨rfl, rfl⟩
    clear d1
    generalize wc = w1 at *
    go_upto_if 42 with (fail)
    go_cut [] (fun wc => ∃ (c2 a2 : Int), OpS w wc B p q A n c l a2 m st v xs w.heap.size g ⟨kind, y1, y2, y3, b2, c2, 0, 0, 0⟩ ∧ ((2 < operandsF y1 ∧ 0 ≤ c2 ∧ c2 < regs) ∨ (operandsF y1 ≤ 2 ∧ c2 = 0)) ∧ a ≤ a2 ∧ a2 ≤ a + 5)
    case first =>
      by_cases t : 2 < operandsF y1
      · have c0 : w1.cell? ⟨q, 0, none⟩ = some (.pointer (some ⟨p, 0, none⟩)) := HS.out.cod.blk.cell 0
        have T := Lib.hid t
        go_wp2_with fail
        refine (next_any w1 p A n c l a2 regs HS.out.cod.str (by omega) (by omega)).mono ?_
        rintro e w2 ⟨c2, a3, rfl, ⟨x1, x2, -⟩, z1, z2, hs2, k2⟩
        have x2 := x2 (by omega)
        have HS2 := Lib.hid (HS.out.moved hs2 k2)
        have d4 : w2.cell? ⟨g, 5, none⟩ = some (.int .i64 0) := HS2.out.k7.cell 5
        have f4 := HS2.out.k7.frozen 5
        clear hs2 k2 c0 HS
        go_wp2_with fail
        go_meet
        case rel => exact ⟨c2, a3, HS2.out.set 5 (.int .i64 c2) ⟨kind, y1, y2, y3, b2, c2, 0, 0, 0⟩ rfl hql HVL.out, Or.inl ⟨T.out, x1, x2⟩, by omega, by omega⟩
      · have T := Lib.hid t
        go_wp2_with fail
        go_meet
        case rel => exact ⟨0, a2, HS.out, Or.inr ⟨by have := T.out; omega, rfl⟩, by omega, by omega⟩
    case rest =>
      obtain ⟨c2, a3, hS, hC, g3, g3'⟩ := hcut
      have HC := Lib.hid hC
      have HS := Lib.hid hS
      have d1 : wc.cell? ⟨g, 1, none⟩ = some (.int .i64 y1) := hS.k7.cell 1
      clear hS hC
      generalize wc = w1 at *
      go_upto_block 0 with (fail)
      clear d1
      go_cut [51] (fun _ wc => ∃ (n4 m4 a4 : Int), OpS w wc B p q A n c l a4 m st v xs w.heap.size g ⟨kind, y1, y2, y3, b2, c2, 0, n4, m4⟩ ∧ ((y1 = 12 ∧ -9 ≤ n4 ∧ n4 ≤ m4 ∧ m4 ≤ 9) ∨ (y1 = 13 ∧ 1 ≤ n4 ∧ n4 ≤ 31 ∧ m4 = 0) ∨ (y1 = 14 ∧ 1 ≤ n4 ∧ n4 ≤ 2147483647 ∧ m4 = 0) ∨ (y1 ≠ 12 ∧ y1 ≠ 13 ∧ y1 ≠ 14 ∧ n4 = 0 ∧ m4 = 0)) ∧ a ≤ a4 ∧ a4 ≤ a + 8)
      case first =>
        by_cases t : y1 = 12
        · have T := Lib.hid t
          go_upto_region 8 with (fail)
          refine op_r8 w w1 HS.out (by omega) hql HVL.out _ ?_
          intro w2 u54 u55 u56 u57 u58 u59 u60 u61 u62 u63 u64 u65 n4 m4 a4 hS4 x1 x2 z1 z2
          have HS4 := Lib.hid hS4
          obtain ⟨x1, x1'⟩ := x1
          obtain ⟨x2, x2'⟩ := x2
          clear hS4 HS
          go_wp2_with fail
          go_meet
          case rel => exact ⟨n4, m4, a4, HS4.out, Or.inl ⟨T.out, by omega, by omega, by omega⟩, by omega, by omega⟩
        by_cases t1 : y1 = 13
        · have T := Lib.hid t1
          have c0 : w1.cell? ⟨q, 0, none⟩ = some (.pointer (some ⟨p, 0, none⟩)) := HS.out.cod.blk.cell 0
          go_wp2_with fail
          refine (range_any w1 p A n c l a3 1 31 HS.out.cod.str (by omega) (by omega) (by omega) (by omega)).mono ?_
          rintro e w2 ⟨n4, a4, rfl, ⟨x1, x2⟩, z1, z2, hs2, k2⟩
          have HS2 := Lib.hid (HS.out.moved hs2 k2)
          have d4 : w2.cell? ⟨g, 7, none⟩ = some (.int .i64 0) := HS2.out.k7.cell 7
          have f4 := HS2.out.k7.frozen 7
          clear hs2 k2 c0 HS
          go_wp2_with fail
          go_meet
          case rel => exact ⟨n4, 0, a4, HS2.out.set 7 (.int .i64 n4) ⟨kind, y1, y2, y3, b2, c2, 0, n4, 0⟩ rfl hql HVL.out, Or.inr (Or.inl ⟨T.out, by omega, by omega, rfl⟩), by omega, by omega⟩
        by_cases t2 : y1 = 14
        · have T := Lib.hid t2
          have c0 : w1.cell? ⟨q, 0, none⟩ = some (.pointer (some ⟨p, 0, none⟩)) := HS.out.cod.blk.cell 0
          go_wp2_with fail
          refine (pick_lit w1 p A n c l a3 HS.out.cod.str (by omega) [1, 2, 3, 7, 2147483647] 5 rfl (by omega) (by omega) _ rfl _ rfl).mono ?_
          rintro e w2 ⟨n4, a4, rfl, mz, z1, z2, hs2, k2⟩
          simp only [List.mem_cons, List.not_mem_nil, or_false] at mz
          have HS2 := Lib.hid (HS.out.moved hs2 k2)
          have d4 : w2.cell? ⟨g, 7, none⟩ = some (.int .i64 0) := HS2.out.k7.cell 7
          have f4 := HS2.out.k7.frozen 7
          have MZ := Lib.hid mz
          clear hs2 k2 c0 HS mz
          go_wp2_with fail
          go_meet
          case rel =>
            have mz := MZ.out
            exact ⟨n4, 0, a4, HS2.out.set 7 (.int .i64 n4) ⟨kind, y1, y2, y3, b2, c2, 0, n4, 0⟩ rfl hql HVL.out, Or.inr (Or.inr (Or.inl ⟨T.out, by omega, by omega, rfl⟩)), by omega, by omega⟩
        · have T := Lib.hid (And.intro t (And.intro t1 t2))
          go_wp2_with fail
          go_meet
          case rel => exact ⟨0, 0, a3, HS.out, Or.inr (Or.inr (Or.inr ⟨T.out.1, T.out.2.1, T.out.2.2, rfl, rfl⟩)), by omega, by omega⟩
      case rest =>
        obtain ⟨n4, m4, a4, hS, hN, g4, g4'⟩ := hcut
        have HN := Lib.hid hN
        have HS := Lib.hid hS
        have d0 : wc.cell? ⟨g, 0, none⟩ = some (.int .i64 kind) := hS.k7.cell 0
        have d1 : wc.cell? ⟨g, 1, none⟩ = some (.int .i64 y1) := hS.k7.cell 1
        have d2 : wc.cell? ⟨g, 2, none⟩ = some (.int .i64 y2) := hS.k7.cell 2
        have d3 : wc.cell? ⟨g, 3, none⟩ = some (.int .i64 y3) := hS.k7.cell 3
        have d4 : wc.cell? ⟨g, 4, none⟩ = some (.int .i64 b2) := hS.k7.cell 4
        have d5 : wc.cell? ⟨g, 5, none⟩ = some (.int .i64 c2) := hS.k7.cell 5
        have d6 : wc.cell? ⟨g, 6, none⟩ = some (.int .i64 0) := hS.k7.cell 6
        have d7 : wc.cell? ⟨g, 7, none⟩ = some (.int .i64 n4) := hS.k7.cell 7
        have d8 : wc.cell? ⟨g, 8, none⟩ = some (.int .i64 m4) := hS.k7.cell 8
        have e0 : wc.cell? ⟨w.heap.size, 0, none⟩ = some (.int .i64 0) := hS.k6.cell 0
        have e1 : wc.cell? ⟨w.heap.size, 1, none⟩ = some (.int .i64 0) := hS.k6.cell 1
        have e2 : wc.cell? ⟨w.heap.size, 2, none⟩ = some (.int .i64 0) := hS.k6.cell 2
        have e3 : wc.cell? ⟨w.heap.size, 3, none⟩ = some (.int .i64 0) := hS.k6.cell 3
        have e4 : wc.cell? ⟨w.heap.size, 4, none⟩ = some (.int .i64 0) := hS.k6.cell 4
        have e5 : wc.cell? ⟨w.heap.size, 5, none⟩ = some (.int .i64 0) := hS.k6.cell 5
        have e6 : wc.cell? ⟨w.heap.size, 6, none⟩ = some (.int .i64 0) := hS.k6.cell 6
        have e7 : wc.cell? ⟨w.heap.size, 7, none⟩ = some (.int .i64 0) := hS.k6.cell 7
        have e8 : wc.cell? ⟨w.heap.size, 8, none⟩ = some (.int .i64 0) := hS.k6.cell 8
        have f0 := hS.k6.frozen 0
        have f1 := hS.k6.frozen 1
        have f2 := hS.k6.frozen 2
        have f3 := hS.k6.frozen 3
        have f4 := hS.k6.frozen 4
        have f5 := hS.k6.frozen 5
        have f6 := hS.k6.frozen 6
        have f7 := hS.k6.frozen 7
        have f8 := hS.k6.frozen 8
        have z6 := hS.l67
        clear hS hN
        go_wp2_with fail
        have bf := blk9' wc w.heap.size 44 _ _ _ _ _ _ _ _ _ (.int .i64 kind) (.int .i64 y1) (.int .i64 y2) (.int .i64 y3) (.int .i64 b2) (.int .i64 c2) (.int .i64 0) (.int .i64 n4) (.int .i64 m4) HS.out.k6
        have kf := keeps9' wc w.heap.size (.int .i64 kind) (.int .i64 y1) (.int .i64 y2) (.int .i64 y3) (.int .i64 b2) (.int .i64 c2) (.int .i64 0) (.int .i64 n4) (.int .i64 m4)
        (try simp only [Exit.inBlock, Exit.then])
        refine bodyPost_ret (v := .agg (Ins.cells ⟨kind, y1, y2, y3, b2, c2, 0, n4, m4⟩)) ?_ ?_ ?_
        · exact results_cell_row (p := 6) (ty := 44) (fn := Tryz.f34) rfl _ _ w.heap.size 44 (Ins.cells ⟨kind, y1, y2, y3, b2, c2, 0, n4, m4⟩) (0, 0) _ rfl bf Tryz.underlying44 rfl rfl
        · rfl
        exact ⟨⟨kind, y1, y2, y3, b2, c2, 0, n4, m4⟩, a4, rfl, ⟨rfl, HI.out.1, HI.out.2.1, HI.out.2.2, HB.out, HC.out, rfl, HN.out⟩, g4, g4', HS.out.cod.setFar kf (by omega) (by omega) (fun b hb => by have := HVL.out b hb; omega), HS.out.kp.trans kf (fun i hi e => by have e : i = w.heap.size := e; omega)⟩
end Go.Proofs.YtpcejpcbkjnlkaaGreatDoor

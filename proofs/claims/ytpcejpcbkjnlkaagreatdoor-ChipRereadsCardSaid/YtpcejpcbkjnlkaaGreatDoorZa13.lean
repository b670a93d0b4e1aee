/- Stream.Machine. -/
import Derived.Test.YtpcejpcbkjnlkaaGreatDoorZa10
import Derived.Test.YtpcejpcbkjnlkaaGreatDoorZa11
import Derived.Test.YtpcejpcbkjnlkaaGreatDoorZa12
import Derived.Deep.RegionLaw
import Derived.Deep.DeepCutAuto
import Derived.Deep.CutBlock
set_option linter.unusedVariables false
namespace Go.Proofs.YtpcejpcbkjnlkaaGreatDoor
open Go.RowKit

structure Mach where
  main : Int
  banks : Int
  bank : Int
  lanes : Int
  queues : Int
def Mach.cells (m : Mach) : Array Value := #[.int .i64 m.main, .int .i64 m.banks, .int .i64 m.bank, .int .i64 m.lanes, .int .i64 m.queues]
def Mach.val (m : Mach) : Value := .agg m.cells
/-- what the generator gives -/
structure Mach.Gen (m : Mach) : Prop where
  main : m.main ≤ 64 ∨ m.main = 524289
  banks : 1 ≤ m.banks ∧ m.banks ≤ 9
  bank : 255 ≤ m.bank ∧ m.bank ≤ 4097
  lanes : 1 ≤ m.lanes ∧ m.lanes ≤ 9
  queues : 0 ≤ m.queues ∧ m.queues ≤ 5
theorem Str.far {S : Nat → Prop} {w w' : World} {p : Nat} {A : Option Addr} {n c : Nat} {l : List Int} {a : Int} (h : Str w p A n c l a) (hk : Keeps S w w') (hp : ¬ S p) (hs : ∀ ad, 0 < n → A = some ad → ¬ S ad.block) : Str w' p A n c l a := by
  refine ⟨hk.blk h.blk hp, ?_, h.wf, h.len, h.at0⟩
  refine ⟨h.reads.1, fun hn => ?_⟩
  obtain ⟨ad, e, hb, ht, hc⟩ := h.reads.2 hn
  exact ⟨ad, e, Nat.lt_of_lt_of_le hb hk.size, ht, fun j u hu => (hk.cell (by rw [block_of_add]; exact hb) (by rw [block_of_add]; exact hs ad hn e)).trans (hc j u hu)⟩
/-- the array of the stream's numbers lies below B -/
def Low (A : Option Addr) (n B : Nat) : Prop := ∀ ad, 0 < n → A = some ad → ad.block < B
theorem Str.low {w : World} {p : Nat} {A : Option Addr} {n c : Nat} {l : List Int} {a : Int} (h : Str w p A n c l a) : Low A n w.heap.size := fun ad hn e => by
  obtain ⟨ad', e', hb, _⟩ := h.reads.2 hn
  rw [e] at e'
  cases e'
  exact hb
/-- inside Machine, behind the switch -/
structure MaS (w W : World) (p : Nat) (A : Option Addr) (n c : Nat) (l : List Int) (q2 q3 : Nat) (a' : Int) (m : Mach) : Prop where
  str : Str W p A n c l a'
  kp : Keeps (· = p) w W
  k2 : Blk W q2 27 #[.int .i64 0, .int .i64 0, .int .i64 0, .int .i64 0, .int .i64 0]
  k3 : Blk W q3 27 m.cells
  low : Low A n w.heap.size
  lp : p < w.heap.size
  l2 : w.heap.size ≤ q2
  l23 : q2 < q3
section
variable {w W W' : World} {p : Nat} {A : Option Addr} {n c : Nat} {l : List Int} {q2 q3 : Nat} {a' a2 : Int} {m : Mach}
theorem MaS.moved (h : MaS w W p A n c l q2 q3 a' m) (hs : Str W' p A n c l a2) (hk : Keeps (· = p) W W') : MaS w W' p A n c l q2 q3 a2 m := by
  have := h.lp
  have := h.l2
  have := h.l23
  exact ⟨hs, h.kp.tr hk, hk.blk h.k2 (by omega), hk.blk h.k3 (by omega), h.low, h.lp, h.l2, h.l23⟩
theorem MaS.set (h : MaS w W p A n c l q2 q3 a' m) (i : Nat) (u : Value) (m' : Mach) (hm : m.cells.setIfInBounds i u = m'.cells) : MaS w (W.setCell ⟨q3, i, none⟩ u) p A n c l q2 q3 a' m' := by
  have := h.lp
  have := h.l2
  have := h.l23
  have hk : Keeps (· = q3) W (W.setCell ⟨q3, i, none⟩ u) := Keeps.setCell (p := ⟨q3, i, none⟩) (Keeps.refl (· = q3) W) (fun _ => rfl) _
  have kp : Keeps (· = p) w (W.setCell ⟨q3, i, none⟩ u) := h.kp.trans hk (fun i hi e => by omega)
  have k3 := h.k3.set_ i u
  rw [hm] at k3
  exact ⟨h.str.far hk (by omega) (fun ad hn e => by have := h.low ad hn e; omega), kp, hk.blk h.k2 (by omega), k3, h.low, h.lp, h.l2, h.l23⟩
end
theorem keeps5' (w : World) (g : Nat) (a0 a1 a2 a3 a4 : Value) : Keeps (· = g) w (((((w.setCell ⟨g, 0, none⟩ a0).setCell ⟨g, 1, none⟩ a1).setCell ⟨g, 2, none⟩ a2).setCell ⟨g, 3, none⟩ a3).setCell ⟨g, 4, none⟩ a4) :=
  Keeps.setCell (p := ⟨g, 4, none⟩) (keeps4 w g a0 a1 a2 a3) (fun _ => rfl) _
theorem blk5' (w : World) (g : Nat) (t : TypeId) (b0 b1 b2 b3 b4 a0 a1 a2 a3 a4 : Value) (h : Blk w g t #[b0, b1, b2, b3, b4]) :
    Blk (((((w.setCell ⟨g, 0, none⟩ a0).setCell ⟨g, 1, none⟩ a1).setCell ⟨g, 2, none⟩ a2).setCell ⟨g, 3, none⟩ a3).setCell ⟨g, 4, none⟩ a4) g t #[a0, a1, a2, a3, a4] := by
  have h : Blk (w.setCell ⟨g, 0, none⟩ a0) g t #[a0, b1, b2, b3, b4] := h.set_ 0 a0
  have h : Blk ((w.setCell ⟨g, 0, none⟩ a0).setCell ⟨g, 1, none⟩ a1) g t #[a0, a1, b2, b3, b4] := h.set_ 1 a1
  have h : Blk (((w.setCell ⟨g, 0, none⟩ a0).setCell ⟨g, 1, none⟩ a1).setCell ⟨g, 2, none⟩ a2) g t #[a0, a1, a2, b3, b4] := h.set_ 2 a2
  have h : Blk ((((w.setCell ⟨g, 0, none⟩ a0).setCell ⟨g, 1, none⟩ a1).setCell ⟨g, 2, none⟩ a2).setCell ⟨g, 3, none⟩ a3) g t #[a0, a1, a2, a3, b4] := h.set_ 3 a3
  exact h.set_ 4 a4
set_option maxRecDepth 100000 in
set_option maxHeartbeats 4000000 in
theorem machine_any (w : World) (p : Nat) (A : Option Addr) (n c : Nat) (l : List Int) (a : Int) (h : Str w p A n c l a) (ha : a ≤ 1000000) :
    Calls Tryz.prog 4 #[.pointer (some ⟨p, 0, none⟩)] w fun e w' => ∃ (m : Mach) (a' : Int), e = .returned m.val ∧ m.Gen ∧ a ≤ a' ∧ a' ≤ a + 8 ∧ Str w' p A n c l a' ∧ Keeps (· = p) w w' := by
  have hp := h.blk.lt
  have HLOW := Lib.hid h.low
  have h0 := h.alloc (.cells #[.int .i64 0, .int .i64 0, .int .i64 0, .int .i64 0, .int .i64 0] 27)
  have HS0 := Lib.hid h0
  have HK0 := Lib.hid (Blk.new w 27 #[.int .i64 0, .int .i64 0, .int .i64 0, .int .i64 0, .int .i64 0])
  have HP0 := Lib.hid ((Keeps.refl (· = p) w).alloc (.cells #[.int .i64 0, .int .i64 0, .int .i64 0, .int .i64 0, .int .i64 0] 27))
  clear h h0
  go_enter Tryz.func4, Tryz.ntmps4
  go_wp2_with fail
  refine (range_any _ p A n c l a _ _ HS0.out (by omega) (by omega) (by omega) (by omega)).mono ?_
  rintro e w1 ⟨v1, a1, rfl, ⟨i1, i1'⟩, g1, g1', hs1, k1⟩
  have HS1 := Lib.hid hs1
  have HP1 := Lib.hid (HP0.out.tr k1)
  have HK1 := Lib.hid (k1.blk HK0.out (by omega))
  clear hs1 k1 HS0 HP0 HK0
  go_wp2_with fail
  refine (range_any _ p A n c l a1 _ _ HS1.out (by omega) (by omega) (by omega) (by omega)).mono ?_
  rintro e w2 ⟨v2, a2, rfl, ⟨i2, i2'⟩, g2, g2', hs2, k2⟩
  have HS2 := Lib.hid hs2
  have HP2 := Lib.hid (HP1.out.tr k2)
  have HK2 := Lib.hid (k2.blk HK1.out (by omega))
  clear hs2 k2 HS1 HP1 HK1
  go_wp2_with fail
  refine (range_any _ p A n c l a2 _ _ HS2.out (by omega) (by omega) (by omega) (by omega)).mono ?_
  rintro e w3 ⟨v3, a3, rfl, ⟨i3, i3'⟩, g3, g3', hs3, k3⟩
  have HS3 := Lib.hid hs3
  have HP3 := Lib.hid (HP2.out.tr k3)
  have HK3 := Lib.hid (k3.blk HK2.out (by omega))
  clear hs3 k3 HS2 HP2 HK2
  go_wp2_with fail
  refine (range_any _ p A n c l a3 _ _ HS3.out (by omega) (by omega) (by omega) (by omega)).mono ?_
  rintro e w4 ⟨v4, a4, rfl, ⟨i4, i4'⟩, g4, g4', hs4, k4⟩
  have hx := (k4.blk HK3.out (by omega)).lt
  have HM : Hid (MaS w (w4.alloc (.cells #[.int .i64 v1, .int .i64 v2, .int .i64 256, .int .i64 v3, .int .i64 v4] 27)) p A n c l w.heap.size w4.heap.size a4 ⟨v1, v2, 256, v3, v4⟩) :=
    Lib.hid ⟨hs4.alloc _, (HP3.out.tr k4).alloc _, (k4.blk HK3.out (by omega)).alloc _, Blk.new _ _ _, HLOW.out, hp, Nat.le_refl _, hx⟩
  clear hs4 k4 HS3 HP3 HK3 HLOW
  go_upto_region 2 with (fail)
  generalize w4.alloc (.cells #[.int .i64 v1, .int .i64 v2, .int .i64 256, .int .i64 v3, .int .i64 v4] 27) = W at *
  generalize w4.heap.size = q3 at *
  go_wp2_with fail
  refine (flip_any W p A n c l a4 20 HM.out.str (by omega) (by omega)).mono ?_
  rintro e w5 ⟨b, a5, rfl, g5, g5', hs5, k5⟩
  have HM5 := Lib.hid (HM.out.moved hs5 k5)
  clear hs5 k5 HM
  go_upto_if 14 with (fail)
  go_cut [] (fun wc => ∃ (m : Mach) (a9 : Int), MaS w wc p A n c l w.heap.size q3 a9 m ∧ m.Gen ∧ a ≤ a9 ∧ a9 ≤ a + 8)
  case first =>
    cases b with
    | false =>
      go_wp2_with fail
      go_meet
      case rel => exact ⟨_, a5, HM5.out, ⟨by left; dsimp only; omega, by dsimp only; omega, by dsimp only; omega, by dsimp only; omega, by dsimp only; omega⟩, by omega, by omega⟩
    | true =>
    go_wp2_with fail
    refine (next_any w5 p A n c l a5 5 HM5.out.str (by omega) (by omega)).mono ?_
    rintro e w6 ⟨v, a6, rfl, ⟨x1, x2, -⟩, y1, y2, hs7, k7⟩
    have hv5 : v < 5 := x2 (by omega)
    have HM6 := Lib.hid (HM5.out.moved hs7 k7)
    clear hs7 k7 x2 HM5
    by_cases t0 : v = 0
    · go_wp2_with fail
      refine (pick_lit w6 p A n c l a6 HM6.out.str (by omega) [0, 524289, 1, -1] 4 rfl (by omega) (by omega) _ rfl _ rfl).mono ?_
      rintro e w7 ⟨z, a7, rfl, mz, z1, z2, hs8, k8⟩
      simp only [List.mem_cons, List.not_mem_nil, or_false] at mz
      have HM7 := Lib.hid (HM6.out.moved hs8 k8)
      have d : w7.cell? ⟨q3, 0, none⟩ = some (.int .i64 v1) := HM7.out.k3.cell 0
      have f := HM7.out.k3.frozen 0
      have MZ := Lib.hid mz
      clear hs8 k8 mz HM6
      go_wp2_with fail
      go_meet
      case rel =>
        have mz := MZ.out
        exact ⟨⟨z, v2, 256, v3, v4⟩, a7, HM7.out.set 0 (.int .i64 z) ⟨z, v2, 256, v3, v4⟩ rfl, ⟨by first | (left; dsimp only; omega) | (right; dsimp only; omega) | (dsimp only; omega), by dsimp only; omega, by dsimp only; omega, by dsimp only; omega, by dsimp only; omega⟩, by omega, by omega⟩
    by_cases t1 : v = 1
    · go_wp2_with fail
      refine (pick_lit w6 p A n c l a6 HM6.out.str (by omega) [1, 9, 8] 3 rfl (by omega) (by omega) _ rfl _ rfl).mono ?_
      rintro e w7 ⟨z, a7, rfl, mz, z1, z2, hs8, k8⟩
      simp only [List.mem_cons, List.not_mem_nil, or_false] at mz
      have HM7 := Lib.hid (HM6.out.moved hs8 k8)
      have d : w7.cell? ⟨q3, 1, none⟩ = some (.int .i64 v2) := HM7.out.k3.cell 1
      have f := HM7.out.k3.frozen 1
      have MZ := Lib.hid mz
      clear hs8 k8 mz HM6
      go_wp2_with fail
      go_meet
      case rel =>
        have mz := MZ.out
        exact ⟨⟨v1, z, 256, v3, v4⟩, a7, HM7.out.set 1 (.int .i64 z) ⟨v1, z, 256, v3, v4⟩ rfl, ⟨by first | (left; dsimp only; omega) | (right; dsimp only; omega) | (dsimp only; omega), by dsimp only; omega, by dsimp only; omega, by dsimp only; omega, by dsimp only; omega⟩, by omega, by omega⟩
    by_cases t2 : v = 2
    · go_wp2_with fail
      refine (pick_lit w6 p A n c l a6 HM6.out.str (by omega) [255, 4097, 4096] 3 rfl (by omega) (by omega) _ rfl _ rfl).mono ?_
      rintro e w7 ⟨z, a7, rfl, mz, z1, z2, hs8, k8⟩
      simp only [List.mem_cons, List.not_mem_nil, or_false] at mz
      have HM7 := Lib.hid (HM6.out.moved hs8 k8)
      have d : w7.cell? ⟨q3, 2, none⟩ = some (.int .i64 256) := HM7.out.k3.cell 2
      have f := HM7.out.k3.frozen 2
      have MZ := Lib.hid mz
      clear hs8 k8 mz HM6
      go_wp2_with fail
      go_meet
      case rel =>
        have mz := MZ.out
        exact ⟨⟨v1, v2, z, v3, v4⟩, a7, HM7.out.set 2 (.int .i64 z) ⟨v1, v2, z, v3, v4⟩ rfl, ⟨by first | (left; dsimp only; omega) | (right; dsimp only; omega) | (dsimp only; omega), by dsimp only; omega, by dsimp only; omega, by dsimp only; omega, by dsimp only; omega⟩, by omega, by omega⟩
    by_cases t3 : v = 3
    · go_wp2_with fail
      refine (pick_lit w6 p A n c l a6 HM6.out.str (by omega) [1, 9, 8] 3 rfl (by omega) (by omega) _ rfl _ rfl).mono ?_
      rintro e w7 ⟨z, a7, rfl, mz, z1, z2, hs8, k8⟩
      simp only [List.mem_cons, List.not_mem_nil, or_false] at mz
      have HM7 := Lib.hid (HM6.out.moved hs8 k8)
      have d : w7.cell? ⟨q3, 3, none⟩ = some (.int .i64 v3) := HM7.out.k3.cell 3
      have f := HM7.out.k3.frozen 3
      have MZ := Lib.hid mz
      clear hs8 k8 mz HM6
      go_wp2_with fail
      go_meet
      case rel =>
        have mz := MZ.out
        exact ⟨⟨v1, v2, 256, z, v4⟩, a7, HM7.out.set 3 (.int .i64 z) ⟨v1, v2, 256, z, v4⟩ rfl, ⟨by first | (left; dsimp only; omega) | (right; dsimp only; omega) | (dsimp only; omega), by dsimp only; omega, by dsimp only; omega, by dsimp only; omega, by dsimp only; omega⟩, by omega, by omega⟩
    · go_wp2_with fail
      refine (pick_lit w6 p A n c l a6 HM6.out.str (by omega) [0, 5, 4] 3 rfl (by omega) (by omega) _ rfl _ rfl).mono ?_
      rintro e w7 ⟨z, a7, rfl, mz, z1, z2, hs8, k8⟩
      simp only [List.mem_cons, List.not_mem_nil, or_false] at mz
      have HM7 := Lib.hid (HM6.out.moved hs8 k8)
      have d : w7.cell? ⟨q3, 4, none⟩ = some (.int .i64 v4) := HM7.out.k3.cell 4
      have f := HM7.out.k3.frozen 4
      have MZ := Lib.hid mz
      clear hs8 k8 mz HM6
      go_wp2_with fail
      go_meet
      case rel =>
        have mz := MZ.out
        exact ⟨⟨v1, v2, 256, v3, z⟩, a7, HM7.out.set 4 (.int .i64 z) ⟨v1, v2, 256, v3, z⟩ rfl, ⟨by first | (left; dsimp only; omega) | (right; dsimp only; omega) | (dsimp only; omega), by dsimp only; omega, by dsimp only; omega, by dsimp only; omega, by dsimp only; omega⟩, by omega, by omega⟩
  case rest =>
    obtain ⟨m, a9, hm, hg, g9, g9'⟩ := hcut
    have d0 : wc.cell? ⟨q3, 0, none⟩ = some (.int .i64 m.main) := hm.k3.cell 0
    have d1 : wc.cell? ⟨q3, 1, none⟩ = some (.int .i64 m.banks) := hm.k3.cell 1
    have d2 : wc.cell? ⟨q3, 2, none⟩ = some (.int .i64 m.bank) := hm.k3.cell 2
    have d3 : wc.cell? ⟨q3, 3, none⟩ = some (.int .i64 m.lanes) := hm.k3.cell 3
    have d4 : wc.cell? ⟨q3, 4, none⟩ = some (.int .i64 m.queues) := hm.k3.cell 4
    have e0 : wc.cell? ⟨w.heap.size, 0, none⟩ = some (.int .i64 0) := hm.k2.cell 0
    have e1 : wc.cell? ⟨w.heap.size, 1, none⟩ = some (.int .i64 0) := hm.k2.cell 1
    have e2 : wc.cell? ⟨w.heap.size, 2, none⟩ = some (.int .i64 0) := hm.k2.cell 2
    have e3 : wc.cell? ⟨w.heap.size, 3, none⟩ = some (.int .i64 0) := hm.k2.cell 3
    have e4 : wc.cell? ⟨w.heap.size, 4, none⟩ = some (.int .i64 0) := hm.k2.cell 4
    have f0 := hm.k2.frozen 0
    have f1 := hm.k2.frozen 1
    have f2 := hm.k2.frozen 2
    have f3 := hm.k2.frozen 3
    have f4 := hm.k2.frozen 4
    have HMR := Lib.hid hm
    have HG := Lib.hid hg
    clear hm hg HM5
    go_wp2_with fail
    have bf := blk5' wc w.heap.size 27 _ _ _ _ _ (.int .i64 m.main) (.int .i64 m.banks) (.int .i64 m.bank) (.int .i64 m.lanes) (.int .i64 m.queues) HMR.out.k2
    have kf := keeps5' wc w.heap.size (.int .i64 m.main) (.int .i64 m.banks) (.int .i64 m.bank) (.int .i64 m.lanes) (.int .i64 m.queues)
    (try simp only [Exit.inBlock, Exit.then])
    refine bodyPost_ret (v := .agg #[.int .i64 m.main, .int .i64 m.banks, .int .i64 m.bank, .int .i64 m.lanes, .int .i64 m.queues]) ?_ ?_ ?_
    · exact results_cell_row (p := 2) (ty := 27) (fn := Tryz.f4) rfl _ _ w.heap.size 27 #[.int .i64 m.main, .int .i64 m.banks, .int .i64 m.bank, .int .i64 m.lanes, .int .i64 m.queues] (0, 0) _ rfl bf Tryz.underlying27 rfl rfl
    · rfl
    have kt := HMR.out.kp.trans kf (S := (· = p)) (fun i hi h => by omega)
    exact ⟨m, a9, rfl, HG.out, g9, g9', HMR.out.str.far kf (by omega) (fun ad hn e => by have := HMR.out.low ad hn e; omega), kt⟩
end Go.Proofs.YtpcejpcbkjnlkaaGreatDoor

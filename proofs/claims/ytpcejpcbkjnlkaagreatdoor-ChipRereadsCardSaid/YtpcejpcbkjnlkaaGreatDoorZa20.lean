/- chip: argsOf, ranged of an instruction that is right. Printed by gen_chip6.py. -/
import Derived.Test.YtpcejpcbkjnlkaaGreatDoorZa19
set_option linter.unusedVariables false
namespace Go.Proofs.YtpcejpcbkjnlkaaGreatDoor
open Go.RowKit

theorem form_kinds {op k : Int} {f : Frm} (h : formF op k = some f) : (0 ≤ f.d ∧ f.d ≤ 5) ∧ (0 ≤ f.a ∧ f.a ≤ 5) ∧ (0 ≤ f.b ∧ f.b ≤ 5) ∧ (0 ≤ f.c ∧ f.c ≤ 5) ∧ (0 ≤ f.n ∧ f.n ≤ 5) ∧ 0 ≤ f.m ∧ f.m ≤ 5 := by
  refine form_case (P := fun _ f => (0 ≤ f.d ∧ f.d ≤ 5) ∧ (0 ≤ f.a ∧ f.a ≤ 5) ∧ (0 ≤ f.b ∧ f.b ≤ 5) ∧ (0 ≤ f.c ∧ f.c ≤ 5) ∧ (0 ≤ f.n ∧ f.n ≤ 5) ∧ 0 ≤ f.m ∧ f.m ≤ 5) h ?_ ?_ ?_ ?_ ?_ ?_ ?_ ?_ ?_ ?_ ?_ ?_ ?_ ?_ ?_ ?_ ?_ ?_ ?_
  all_goals (dsimp only [operF]; refine ⟨?_, ?_, ?_, ?_, ?_, ?_⟩ <;> (try split) <;> omega)
theorem inB_no {n lo hi : Int} (h : ¬ (lo ≤ n ∧ n ≤ hi)) : inB n lo hi = false := by
  cases hb : inB n lo hi with
  | false => rfl
  | true => exact absurd (inB_out hb) h
set_option maxRecDepth 100000 in
set_option maxHeartbeats 1000000 in
theorem args_any (k : Int) (w : World) : Calls Tryz.prog 77 #[.int .i64 k] w fun e w' => e = .returned (.int .i64 (argsF k)) ∧ w = w' := by
  by_cases h1 : k = 15
  · subst h1
    rw [show argsF 15 = 3 from rfl]
    go_enter Tryz.func77, Tryz.ntmps77
    go_wp2_with fail
    go_ret
    exact ⟨rfl, rfl⟩
  have z : (k == 15) = false := by simpa using h1
  by_cases h2 : 4 ≤ k ∧ k ≤ 10
  · rw [show argsF k = 2 by unfold argsF; rw [if_neg h1, if_pos h2]]
    have i1 := inB_yes h2.1 h2.2
    clear h1 h2
    go_enter Tryz.func77, Tryz.ntmps77
    go_wp2_with fail
    refine (cwithin_any k 4 10 _).mono ?_
    rintro e w' ⟨rfl, rfl⟩
    rw [i1]
    clear i1
    go_wp2_with fail
    go_ret
    exact ⟨rfl, rfl⟩
  have i1 := inB_no h2
  by_cases h3 : 11 ≤ k ∧ k ≤ 14
  · rw [show argsF k = 1 by unfold argsF; rw [if_neg h1, if_neg h2, if_pos h3]]
    have i2 := inB_yes h3.1 h3.2
    clear h1 h2 h3
    go_enter Tryz.func77, Tryz.ntmps77
    go_wp2_with fail
    refine (cwithin_any k 4 10 _).mono ?_
    rintro e w' ⟨rfl, rfl⟩
    rw [i1]
    clear i1
    go_wp2_with fail
    refine (cwithin_any k 11 14 _).mono ?_
    rintro e w' ⟨rfl, rfl⟩
    rw [i2]
    clear i2
    go_wp2_with fail
    go_ret
    exact ⟨rfl, rfl⟩
  · rw [show argsF k = 0 by unfold argsF; rw [if_neg h1, if_neg h2, if_neg h3]]
    have i2 := inB_no h3
    clear h1 h2 h3
    go_enter Tryz.func77, Tryz.ntmps77
    go_wp2_with fail
    refine (cwithin_any k 4 10 _).mono ?_
    rintro e w' ⟨rfl, rfl⟩
    rw [i1]
    clear i1
    go_wp2_with fail
    refine (cwithin_any k 11 14 _).mono ?_
    rintro e w' ⟨rfl, rfl⟩
    rw [i2]
    clear i2
    go_wp2_with fail
    go_ret
    exact ⟨rfl, rfl⟩
set_option maxRecDepth 100000 in
set_option maxHeartbeats 8000000 in
theorem ranged_any (m : Mach) (hm : m.ok = true) (x : Ins) (f : Frm) (h : formF x.op x.k = some f) (ho : FormOk m.banks m.bank m.lanes m.queues f x) (w : World) : Calls Tryz.prog 40 #[m.val, .agg x.cells, .agg f.cells] w fun e w' => e = .returned (.bool true) ∧ Below w.heap.size w w' := by
  obtain ⟨K1, K2, K3, K4, K5, K6⟩ := form_kinds h
  have hop := form_op h
  obtain ⟨op, k, d, a, b, c, p, n, mm⟩ := x
  obtain ⟨-, -, fd, fa, fb, fc, fn, fm, hp, hx⟩ := ho
  obtain ⟨x1, x2, x3, x4, x5⟩ := hx
  dsimp only at h hop fd fa fb fc fn fm hp x1 x2 x3 x4 x5
  obtain ⟨p1, p2⟩ := hp
  have HF : Hid (∀ W kind v, 0 ≤ kind ∧ kind ≤ 5 → fieldOk m.banks m.queues kind v → Calls Tryz.prog 76 #[.agg #[.int .i64 m.main, .int .i64 m.banks, .int .i64 m.bank, .int .i64 m.lanes, .int .i64 m.queues], .int .i64 kind, .int .i64 v] W fun e w' => e = .returned (.bool true) ∧ Below W.heap.size W w') := Lib.hid fun W kind v h1 h2 => field_any m hm kind v h1 h2 W
  have HFD := Lib.hid (And.intro fd (And.intro fa (And.intro fb (And.intro fc (And.intro fn fm)))))
  have HK := Lib.hid (And.intro K1 (And.intro K2 (And.intro K3 (And.intro K4 (And.intro K5 K6)))))
  have HX := Lib.hid (And.intro x1 (And.intro x2 (And.intro x3 (And.intro x4 x5))))
  have hmo := m.ok_out hm
  have HMO := Lib.hid hmo
  clear fd fa fb fc fn fm K1 K2 K3 K4 K5 K6 x1 x2 x3 x4 x5 hmo hm h
  have HB3 : Hid (Below w.heap.size w (((w.alloc (.cells #[.int .i64 m.main, .int .i64 m.banks, .int .i64 m.bank, .int .i64 m.lanes, .int .i64 m.queues] 102)).alloc (.cells #[.int .i64 op, .int .i64 k, .int .i64 d, .int .i64 a, .int .i64 b, .int .i64 c, .int .i64 p, .int .i64 n, .int .i64 mm] 44)).alloc (.cells #[.string ⟨f.word.toArray⟩, .bool f.k, .int .i64 f.d, .int .i64 f.a, .int .i64 f.b, .int .i64 f.c, .int .i64 f.n, .int .i64 f.m, .bool f.p] 104))) := Lib.hid ((((Below.refl _ _).alloc (Nat.le_refl _) _).alloc (by simp) _).alloc (by simp; omega) _)
  have HK1 : Hid (Blk (((w.alloc (.cells #[.int .i64 m.main, .int .i64 m.banks, .int .i64 m.bank, .int .i64 m.lanes, .int .i64 m.queues] 102)).alloc (.cells #[.int .i64 op, .int .i64 k, .int .i64 d, .int .i64 a, .int .i64 b, .int .i64 c, .int .i64 p, .int .i64 n, .int .i64 mm] 44)).alloc (.cells #[.string ⟨f.word.toArray⟩, .bool f.k, .int .i64 f.d, .int .i64 f.a, .int .i64 f.b, .int .i64 f.c, .int .i64 f.n, .int .i64 f.m, .bool f.p] 104)) w.heap.size 102 #[.int .i64 m.main, .int .i64 m.banks, .int .i64 m.bank, .int .i64 m.lanes, .int .i64 m.queues]) := Lib.hid (((Blk.new w _ _).alloc _).alloc _)
  have HK2 : Hid (Blk (((w.alloc (.cells #[.int .i64 m.main, .int .i64 m.banks, .int .i64 m.bank, .int .i64 m.lanes, .int .i64 m.queues] 102)).alloc (.cells #[.int .i64 op, .int .i64 k, .int .i64 d, .int .i64 a, .int .i64 b, .int .i64 c, .int .i64 p, .int .i64 n, .int .i64 mm] 44)).alloc (.cells #[.string ⟨f.word.toArray⟩, .bool f.k, .int .i64 f.d, .int .i64 f.a, .int .i64 f.b, .int .i64 f.c, .int .i64 f.n, .int .i64 f.m, .bool f.p] 104)) (w.heap.size + 1) 44 #[.int .i64 op, .int .i64 k, .int .i64 d, .int .i64 a, .int .i64 b, .int .i64 c, .int .i64 p, .int .i64 n, .int .i64 mm]) := Lib.hid (by have hh := (Blk.new (w.alloc (.cells #[.int .i64 m.main, .int .i64 m.banks, .int .i64 m.bank, .int .i64 m.lanes, .int .i64 m.queues] 102)) 44 #[.int .i64 op, .int .i64 k, .int .i64 d, .int .i64 a, .int .i64 b, .int .i64 c, .int .i64 p, .int .i64 n, .int .i64 mm]).alloc (.cells #[.string ⟨f.word.toArray⟩, .bool f.k, .int .i64 f.d, .int .i64 f.a, .int .i64 f.b, .int .i64 f.c, .int .i64 f.n, .int .i64 f.m, .bool f.p] 104); simpa using hh)
  unfold Mach.val Mach.cells Ins.cells Frm.cells
  dsimp only
  go_enter Tryz.func40, Tryz.ntmps40
  go_wp2_with fail
  refine (cwithin_yes p 0 16 _ p1 p2).mono ?_
  rintro e w1 ⟨rfl, rfl⟩
  clear p1 p2
  go_wp2_with fail
  have HK3 : Hid (Blk ((((w.alloc (.cells #[.int .i64 m.main, .int .i64 m.banks, .int .i64 m.bank, .int .i64 m.lanes, .int .i64 m.queues] 102)).alloc (.cells #[.int .i64 op, .int .i64 k, .int .i64 d, .int .i64 a, .int .i64 b, .int .i64 c, .int .i64 p, .int .i64 n, .int .i64 mm] 44)).alloc (.cells #[.string ⟨f.word.toArray⟩, .bool f.k, .int .i64 f.d, .int .i64 f.a, .int .i64 f.b, .int .i64 f.c, .int .i64 f.n, .int .i64 f.m, .bool f.p] 104)).alloc (.cells #[.int .i64 f.d, .int .i64 d, .int .i64 f.a, .int .i64 a, .int .i64 f.b, .int .i64 b, .int .i64 f.c, .int .i64 c, .int .i64 f.n, .int .i64 n, .int .i64 f.m, .int .i64 mm] 187)) (w.heap.size + 3) 187 #[.int .i64 f.d, .int .i64 d, .int .i64 f.a, .int .i64 a, .int .i64 f.b, .int .i64 b, .int .i64 f.c, .int .i64 c, .int .i64 f.n, .int .i64 n, .int .i64 f.m, .int .i64 mm]) := Lib.hid (by have hh := Blk.new (((w.alloc (.cells #[.int .i64 m.main, .int .i64 m.banks, .int .i64 m.bank, .int .i64 m.lanes, .int .i64 m.queues] 102)).alloc (.cells #[.int .i64 op, .int .i64 k, .int .i64 d, .int .i64 a, .int .i64 b, .int .i64 c, .int .i64 p, .int .i64 n, .int .i64 mm] 44)).alloc (.cells #[.string ⟨f.word.toArray⟩, .bool f.k, .int .i64 f.d, .int .i64 f.a, .int .i64 f.b, .int .i64 f.c, .int .i64 f.n, .int .i64 f.m, .bool f.p] 104)) 187 #[.int .i64 f.d, .int .i64 d, .int .i64 f.a, .int .i64 a, .int .i64 f.b, .int .i64 b, .int .i64 f.c, .int .i64 c, .int .i64 f.n, .int .i64 n, .int .i64 f.m, .int .i64 mm]; simpa using hh)
  have HB4 := Lib.hid (HB3.out.alloc (by simp; omega) (.cells #[.int .i64 f.d, .int .i64 d, .int .i64 f.a, .int .i64 a, .int .i64 f.b, .int .i64 b, .int .i64 f.c, .int .i64 c, .int .i64 f.n, .int .i64 n, .int .i64 f.m, .int .i64 mm] 187))
  have HK1 := Lib.hid (HK1.out.alloc (.cells #[.int .i64 f.d, .int .i64 d, .int .i64 f.a, .int .i64 a, .int .i64 f.b, .int .i64 b, .int .i64 f.c, .int .i64 c, .int .i64 f.n, .int .i64 n, .int .i64 f.m, .int .i64 mm] 187))
  have HK2 := Lib.hid (HK2.out.alloc (.cells #[.int .i64 f.d, .int .i64 d, .int .i64 f.a, .int .i64 a, .int .i64 f.b, .int .i64 b, .int .i64 f.c, .int .i64 c, .int .i64 f.n, .int .i64 n, .int .i64 f.m, .int .i64 mm] 187))
  clear HB3
  generalize ((((w.alloc (.cells #[.int .i64 m.main, .int .i64 m.banks, .int .i64 m.bank, .int .i64 m.lanes, .int .i64 m.queues] 102)).alloc (.cells #[.int .i64 op, .int .i64 k, .int .i64 d, .int .i64 a, .int .i64 b, .int .i64 c, .int .i64 p, .int .i64 n, .int .i64 mm] 44)).alloc (.cells #[.string ⟨f.word.toArray⟩, .bool f.k, .int .i64 f.d, .int .i64 f.a, .int .i64 f.b, .int .i64 f.c, .int .i64 f.n, .int .i64 f.m, .bool f.p] 104)).alloc (.cells #[.int .i64 f.d, .int .i64 d, .int .i64 f.a, .int .i64 a, .int .i64 f.b, .int .i64 b, .int .i64 f.c, .int .i64 c, .int .i64 f.n, .int .i64 n, .int .i64 f.m, .int .i64 mm] 187)) = W0 at *
  go_loopw [7, 45] (fun okv i wr => ∃ k : Nat, k ≤ 6 ∧ i = .int .i64 k ∧ okv = .bool true ∧ Below W0.heap.size W0 wr) (fun _ i _ => 6 - (intOf i).toNat)
  case atStart => exact ⟨0, by omega, rfl, rfl, Below.refl _ _⟩
  obtain ⟨kk, hkk, rfl, rfl, hbr⟩ := hrel
  have HBR := Lib.hid hbr
  have z0 : W0.heap.size ≤ wr.heap.size := hbr.size
  have k1 := HK1.out.below hbr HK1.out.lt
  have k2 := HK2.out.below hbr HK2.out.lt
  have k3 := HK3.out.below hbr HK3.out.lt
  clear hbr
  rcases (show kk = 0 ∨ kk = 1 ∨ kk = 2 ∨ kk = 3 ∨ kk = 4 ∨ kk = 5 ∨ kk = 6 by omega) with rfl | rfl | rfl | rfl | rfl | rfl | rfl
  · have z1 := k1.lt
    have z3 := k3.lt
    have c0 := k1.cell 0
    have c1 := k1.cell 1
    have c2 := k1.cell 2
    have c3 := k1.cell 3
    have c4 := k1.cell 4
    have d0 : wr.cell? ⟨w.heap.size + 3, 0, none⟩ = some (.int .i64 f.d) := k3.cell 0
    have d1 : wr.cell? ⟨w.heap.size + 3, 1, none⟩ = some (.int .i64 d) := k3.cell 1
    clear k1 k2 k3
    go_wp2_with fail
    refine (HF.out _ f.d d HK.out.1 HFD.out.1).mono ?_
    rintro e w2 ⟨rfl, hb2⟩
    have HB2 := Lib.hid hb2
    clear hb2
    go_wp2_with fail
    go_roundw
    case rel => exact ⟨1, by omega, by go_num, rfl, (HBR.out.alloc z0 _).trans (HB2.out.mono (by simp; omega))⟩
    case measure => simp [intOf]
  · have z1 := k1.lt
    have z3 := k3.lt
    have c0 := k1.cell 0
    have c1 := k1.cell 1
    have c2 := k1.cell 2
    have c3 := k1.cell 3
    have c4 := k1.cell 4
    have d0 : wr.cell? ⟨w.heap.size + 3, 2, none⟩ = some (.int .i64 f.a) := k3.cell 2
    have d1 : wr.cell? ⟨w.heap.size + 3, 3, none⟩ = some (.int .i64 a) := k3.cell 3
    clear k1 k2 k3
    go_wp2_with fail
    refine (HF.out _ f.a a HK.out.2.1 HFD.out.2.1).mono ?_
    rintro e w2 ⟨rfl, hb2⟩
    have HB2 := Lib.hid hb2
    clear hb2
    go_wp2_with fail
    go_roundw
    case rel => exact ⟨2, by omega, by go_num, rfl, (HBR.out.alloc z0 _).trans (HB2.out.mono (by simp; omega))⟩
    case measure => simp [intOf]
  · have z1 := k1.lt
    have z3 := k3.lt
    have c0 := k1.cell 0
    have c1 := k1.cell 1
    have c2 := k1.cell 2
    have c3 := k1.cell 3
    have c4 := k1.cell 4
    have d0 : wr.cell? ⟨w.heap.size + 3, 4, none⟩ = some (.int .i64 f.b) := k3.cell 4
    have d1 : wr.cell? ⟨w.heap.size + 3, 5, none⟩ = some (.int .i64 b) := k3.cell 5
    clear k1 k2 k3
    go_wp2_with fail
    refine (HF.out _ f.b b HK.out.2.2.1 HFD.out.2.2.1).mono ?_
    rintro e w2 ⟨rfl, hb2⟩
    have HB2 := Lib.hid hb2
    clear hb2
    go_wp2_with fail
    go_roundw
    case rel => exact ⟨3, by omega, by go_num, rfl, (HBR.out.alloc z0 _).trans (HB2.out.mono (by simp; omega))⟩
    case measure => simp [intOf]
  · have z1 := k1.lt
    have z3 := k3.lt
    have c0 := k1.cell 0
    have c1 := k1.cell 1
    have c2 := k1.cell 2
    have c3 := k1.cell 3
    have c4 := k1.cell 4
    have d0 : wr.cell? ⟨w.heap.size + 3, 6, none⟩ = some (.int .i64 f.c) := k3.cell 6
    have d1 : wr.cell? ⟨w.heap.size + 3, 7, none⟩ = some (.int .i64 c) := k3.cell 7
    clear k1 k2 k3
    go_wp2_with fail
    refine (HF.out _ f.c c HK.out.2.2.2.1 HFD.out.2.2.2.1).mono ?_
    rintro e w2 ⟨rfl, hb2⟩
    have HB2 := Lib.hid hb2
    clear hb2
    go_wp2_with fail
    go_roundw
    case rel => exact ⟨4, by omega, by go_num, rfl, (HBR.out.alloc z0 _).trans (HB2.out.mono (by simp; omega))⟩
    case measure => simp [intOf]
  · have z1 := k1.lt
    have z3 := k3.lt
    have c0 := k1.cell 0
    have c1 := k1.cell 1
    have c2 := k1.cell 2
    have c3 := k1.cell 3
    have c4 := k1.cell 4
    have d0 : wr.cell? ⟨w.heap.size + 3, 8, none⟩ = some (.int .i64 f.n) := k3.cell 8
    have d1 : wr.cell? ⟨w.heap.size + 3, 9, none⟩ = some (.int .i64 n) := k3.cell 9
    clear k1 k2 k3
    go_wp2_with fail
    refine (HF.out _ f.n n HK.out.2.2.2.2.1 HFD.out.2.2.2.2.1).mono ?_
    rintro e w2 ⟨rfl, hb2⟩
    have HB2 := Lib.hid hb2
    clear hb2
    go_wp2_with fail
    go_roundw
    case rel => exact ⟨5, by omega, by go_num, rfl, (HBR.out.alloc z0 _).trans (HB2.out.mono (by simp; omega))⟩
    case measure => simp [intOf]
  · have z1 := k1.lt
    have z3 := k3.lt
    have c0 := k1.cell 0
    have c1 := k1.cell 1
    have c2 := k1.cell 2
    have c3 := k1.cell 3
    have c4 := k1.cell 4
    have d0 : wr.cell? ⟨w.heap.size + 3, 10, none⟩ = some (.int .i64 f.m) := k3.cell 10
    have d1 : wr.cell? ⟨w.heap.size + 3, 11, none⟩ = some (.int .i64 mm) := k3.cell 11
    clear k1 k2 k3
    go_wp2_with fail
    refine (HF.out _ f.m mm HK.out.2.2.2.2.2 HFD.out.2.2.2.2.2).mono ?_
    rintro e w2 ⟨rfl, hb2⟩
    have HB2 := Lib.hid hb2
    clear hb2
    go_wp2_with fail
    go_roundw
    case rel => exact ⟨6, by omega, by go_num, rfl, (HBR.out.alloc z0 _).trans (HB2.out.mono (by simp; omega))⟩
    case measure => simp [intOf]
  · have z2 := k2.lt
    have e0 : wr.cell? ⟨w.heap.size + 1, 0, none⟩ = some (.int .i64 op) := k2.cell 0
    have e1 : wr.cell? ⟨w.heap.size + 1, 1, none⟩ = some (.int .i64 k) := k2.cell 1
    have e5 : wr.cell? ⟨w.heap.size + 1, 5, none⟩ = some (.int .i64 c) := k2.cell 5
    have e7 : wr.cell? ⟨w.heap.size + 1, 7, none⟩ = some (.int .i64 n) := k2.cell 7
    have e8 : wr.cell? ⟨w.heap.size + 1, 8, none⟩ = some (.int .i64 mm) := k2.cell 8
    have c2 : wr.cell? ⟨w.heap.size, 2, none⟩ = some (.int .i64 m.bank) := k1.cell 2
    have c3 : wr.cell? ⟨w.heap.size, 3, none⟩ = some (.int .i64 m.lanes) := k1.cell 3
    have HBF := Lib.hid (HB4.out.trans (HBR.out.mono HB4.out.size))
    clear k1 k2 k3
    by_cases t2 : op = 2 ∨ op = 11
    · obtain ⟨y1, y2, y3, y4⟩ := HX.out.1 t2
      have T := Lib.hid y1
      rcases t2 with rfl | rfl
      all_goals (
        go_wp2_with fail
        refine (args_any k _).mono ?_
        rintro e w2 ⟨rfl, rfl⟩
        have y1 := T.out
        generalize argsF k = ag at *
        by_cases q1 : k = 12
        · have y2 := y2 q1
          subst q1
          go_wp2_with fail
          go_ret
          exact ⟨rfl, HBF.out⟩
        by_cases q2 : k = 13
        · obtain ⟨z3, z3'⟩ := y3 q2
          subst q2
          go_wp2_with fail
          refine (cwithin_yes n 1 31 _ z3 z3').mono ?_
          rintro e w2 ⟨rfl, rfl⟩
          go_wp2_with fail
          go_ret
          exact ⟨rfl, HBF.out⟩
        by_cases q3 : k = 14
        · have y4 := y4 q3
          subst q3
          go_wp2_with fail
          go_ret
          exact ⟨rfl, HBF.out⟩
        · have q1 : (k == 12) = false := by simpa using q1
          have q2 : (k == 13) = false := by simpa using q2
          have q3 : (k == 14) = false := by simpa using q3
          go_wp2_with fail
          go_ret
          exact ⟨rfl, HBF.out⟩)
    have t2a : ¬ op = 2 := fun e => t2 (Or.inl e)
    have t2b : ¬ op = 11 := fun e => t2 (Or.inr e)
    clear t2
    by_cases t3 : op = 3
    · obtain ⟨⟨y1, y2⟩, y3, y4⟩ := HX.out.2.1 t3
      subst t3
      go_wp2_with fail
      refine (cwithin_yes c (-1000) 1000 _ y1 y2).mono ?_
      rintro e w2 ⟨rfl, rfl⟩
      go_wp2_with fail
      refine (cwithin_yes mm 0 1000000 _ y3 y4).mono ?_
      rintro e w2 ⟨rfl, rfl⟩
      go_wp2_with fail
      go_ret
      exact ⟨rfl, HBF.out⟩
    by_cases t4 : op = 13
    · obtain ⟨y1, y2⟩ := HX.out.2.2.1 t4
      subst t4
      have hw : IntKind.i64.wrap (m.lanes - 1) = m.lanes - 1 := IntWalk.i64_in _ (by have := HMO.out.2.2.2.1; omega)
      go_wp2_with fail
      refine (cwithin_yes n 0 (m.lanes - 1) _ y1 y2).mono ?_
      rintro e w2 ⟨rfl, rfl⟩
      go_wp2_with fail
      go_ret
      exact ⟨rfl, HBF.out⟩
    by_cases t5 : op = 14
    · obtain ⟨y1, y2⟩ := HX.out.2.2.2.1 t5
      subst t5
      go_wp2_with fail
      refine (cwithin_yes mm 0 m.bank _ y1 y2).mono ?_
      rintro e w2 ⟨rfl, rfl⟩
      go_wp2_with fail
      go_ret
      exact ⟨rfl, HBF.out⟩
    by_cases t6 : op = 18
    · obtain ⟨⟨y1, y2⟩, y3, y4⟩ := HX.out.2.2.2.2 t6
      subst t6
      go_wp2_with fail
      refine (cwithin_yes k 1 2 _ y1 y2).mono ?_
      rintro e w2 ⟨rfl, rfl⟩
      go_wp2_with fail
      refine (cwithin_yes mm 1 m.bank _ y3 y4).mono ?_
      rintro e w2 ⟨rfl, rfl⟩
      go_wp2_with fail
      go_ret
      exact ⟨rfl, HBF.out⟩
    · have t2a : (op == 2) = false := by simpa using t2a
      have t2b : (op == 11) = false := by simpa using t2b
      have t3 : (op == 3) = false := by simpa using t3
      have t4 : (op == 13) = false := by simpa using t4
      have t5 : (op == 14) = false := by simpa using t5
      have t6 : (op == 18) = false := by simpa using t6
      go_wp2_with fail
      go_ret
      exact ⟨rfl, HBF.out⟩
end Go.Proofs.YtpcejpcbkjnlkaaGreatDoor

/- coder.memory: an instruction that reads or writes words. Printed by gen_chip3.py. -/
import Derived.Test.YtpcejpcbkjnlkaaGreatDoorZa34
import Derived.Deep.CutBlock
set_option linter.unusedVariables false
namespace Go.Proofs.YtpcejpcbkjnlkaaGreatDoor
open Go.RowKit

set_option maxRecDepth 100000 in
set_option maxHeartbeats 8000000 in
theorem memory_any (w : World) {B p q : Nat} {A : Option Addr} {n c : Nat} {l : List Int} {a : Int} {m : Mach} {st : Int} {v : Value} {xs : List Ins} (h : Cod w B p q A n c l a m st v xs) (ha : a ≤ 1000000) (hl : xs.length ≤ 900000) (hm : 1 ≤ m.queues ∧ m.queues ≤ 4) (hst : 0 ≤ st ∧ st ≤ 20) :
    Calls Tryz.prog 35 #[.pointer (some ⟨q, 0, none⟩)] w fun e w' => ∃ (ys : List Ins) (a' : Int) (v' : Value), e = .returned (.tuple #[]) ∧ MemGen m ys ∧ a ≤ a' ∧ a' ≤ a + 12 ∧ Cod w' B p q A n c l a' m st v' (xs ++ ys) ∧ Keeps (fun i => i = p ∨ B ≤ i) w w' := by
  have hpB := h.pB
  have hqB := h.Bq
  have c0 : w.cell? ⟨q, 0, none⟩ = some (.pointer (some ⟨p, 0, none⟩)) := h.blk.cell 0
  have HC := Lib.hid h
  have HM := Lib.hid hm
  clear h hm
  go_enter Tryz.func35, Tryz.ntmps35
  go_wp2_with fail
  refine (next_any w p A n c l a 20 HC.out.str (by omega) (by omega)).mono ?_
  rintro e w1 ⟨y1, a1, rfl, ⟨i1, j1, -⟩, g1, g1', hs1, k1⟩
  have j1 := j1 (by omega)
  have HC1 := Lib.hid (HC.out.moved hs1 k1)
  have KP1 := Lib.hid k1
  have c0 : w1.cell? ⟨q, 0, none⟩ = some (.pointer (some ⟨p, 0, none⟩)) := HC1.out.blk.cell 0
  have c7 : w1.cell? ⟨q, 7, none⟩ = some (.int .i64 st) := HC1.out.blk.cell 7
  clear hs1 k1 HC
  go_upto_if 13 with (fail)
  go_cut [2] (fun s2 wc => ∃ (near a2 : Int), s2 = .int .i64 near ∧ Cod wc B p q A n c l a2 m st v xs ∧ Keeps (· = p) w wc ∧ 0 ≤ near ∧ near < 20 ∧ a ≤ a2 ∧ a2 ≤ a + 2)
  case first =>
    by_cases t : 0 < st
    · go_upto_region 2 with (fail)
      refine memR2_ok w1 HC1.out (by omega) (by omega) (by omega) _ ?_
      intro w2 _ _ _ _ _ _ _ _ _ y2 a2 hc2 i2 g2 g2' k2
      (try go_wp2_with fail)
      go_meet
      case rel => exact ⟨y2, a2, rfl, hc2, KP1.out.tr k2, i2.1, by omega, by omega, by omega⟩
    · go_wp2_with fail
      go_meet
      case rel => exact ⟨y1, a1, rfl, HC1.out, KP1.out, i1, by omega, by omega, by omega⟩
  case rest =>
    obtain ⟨near, a2, rfl, hc, hk, n1, n2, g2, g2'⟩ := hcut
    have HC2 := Lib.hid hc
    have KP2 := Lib.hid hk
    have c0 : wc.cell? ⟨q, 0, none⟩ = some (.pointer (some ⟨p, 0, none⟩)) := hc.blk.cell 0
    clear hc hk HC1 KP1
    go_wp2_with fail
    refine (flip_any wc p A n c l a2 25 HC2.out.str (by omega) (by omega)).mono ?_
    rintro e w3 ⟨b, a3, rfl, g3, g3', hs3, k3⟩
    have HC3 := Lib.hid (HC2.out.moved hs3 k3)
    have KP3 := Lib.hid (KP2.out.tr k3)
    have c0 : w3.cell? ⟨q, 0, none⟩ = some (.pointer (some ⟨p, 0, none⟩)) := HC3.out.blk.cell 0
    clear hs3 k3 HC2 KP2
    generalize wc = wz at *
    go_upto_if 27 with (fail)
    go_cut [2] (fun s2 wc => ∃ (near a2 : Int), s2 = .int .i64 near ∧ Cod wc B p q A n c l a2 m st v xs ∧ Keeps (· = p) w wc ∧ -1 ≤ near ∧ near ≤ 256 ∧ a ≤ a2 ∧ a2 ≤ a + 4)
    case first =>
      cases b with
      | false =>
        go_wp2_with fail
        go_meet
        case rel => exact ⟨near, a3, rfl, HC3.out, KP3.out, by omega, by omega, by omega, by omega⟩
      | true =>
        go_wp2_with fail
        refine (pick_lit w3 p A n c l a3 HC3.out.str (by omega) [-1, 23, 255, 256, 64] 5 rfl (by omega) (by omega) _ rfl _ rfl).mono ?_
        rintro e w4 ⟨z, a4, rfl, mz, g4, g4', hs4, k4⟩
        simp only [List.mem_cons, List.not_mem_nil, or_false] at mz
        have MZ := Lib.hid mz
        have HC4 := Lib.hid (HC3.out.moved hs4 k4)
        have KP4 := Lib.hid (KP3.out.tr k4)
        clear hs4 k4 mz HC3 KP3
        go_wp2_with fail
        go_meet
        case rel =>
          have mz := MZ.out
          exact ⟨z, a4, rfl, HC4.out, KP4.out, by omega, by omega, by omega, by omega⟩
    case rest =>
      obtain ⟨near, a4, rfl, hc, hk, n1, n2, g4, g4'⟩ := hcut
      have HC4 := Lib.hid hc
      have KP4 := Lib.hid hk
      have c0 : wc.cell? ⟨q, 0, none⟩ = some (.pointer (some ⟨p, 0, none⟩)) := hc.blk.cell 0
      clear hc hk HC3 KP3
      go_wp2_with fail
      refine (flip_any wc p A n c l a4 12 HC4.out.str (by omega) (by omega)).mono ?_
      rintro e w5 ⟨b, a5, rfl, g5, g5', hs5, k5⟩
      have HC5 := Lib.hid (HC4.out.moved hs5 k5)
      have KP5 := Lib.hid (KP4.out.tr k5)
      clear hs5 k5 HC4 KP4
      generalize wc = wy at *
      go_upto_if 38 with (fail)
      go_cut [3] (fun s3 wc => ∃ bank : Int, s3 = .int .i64 bank ∧ Cod wc B p q A n c l a5 m st v xs ∧ Keeps (· = p) w wc ∧ 0 ≤ bank ∧ bank ≤ 1)
      case first =>
        cases b with
        | false =>
          go_wp2_with fail
          go_meet
          case rel => exact ⟨0, rfl, HC5.out, KP5.out, by omega, by omega⟩
        | true =>
          go_wp2_with fail
          go_meet
          case rel => exact ⟨1, rfl, HC5.out, KP5.out, by omega, by omega⟩
      case rest =>
        obtain ⟨bank, rfl, hc, hk, b1, b2⟩ := hcut
        have HC6 := Lib.hid hc
        have KP6 := Lib.hid hk
        have c0 : wc.cell? ⟨q, 0, none⟩ = some (.pointer (some ⟨p, 0, none⟩)) := hc.blk.cell 0
        clear hc hk HC5 KP5
        go_wp2_with fail
        refine (next_any wc p A n c l a5 8 HC6.out.str (by omega) (by omega)).mono ?_
        rintro e w7 ⟨y, a7, rfl, ⟨i7, j7, -⟩, g7, g7', hs7, k7⟩
        have j7 := j7 (by omega)
        have HC7 := Lib.hid (HC6.out.moved hs7 k7)
        have KP7 := Lib.hid (KP6.out.tr k7)
        have c0 : w7.cell? ⟨q, 0, none⟩ = some (.pointer (some ⟨p, 0, none⟩)) := HC7.out.blk.cell 0
        clear hs7 k7 HC6 KP6
        generalize wc = wx at *
        go_upto_block 0 with (fail)
        by_cases t0 : y = 0
        · go_upto_region 13 with (fail)
          refine memR13_ok w7 HC7.out (by omega) (by omega) _ ?_
          intro w8 _ _ _ _ _ _ _ _ _ _ y8 y9 a8 v8 hc8 i8 i9 g8 g8' k8
          go_wp2_with fail
          go_end0
          exact ⟨_, a8, v8, rfl, Or.inl ⟨_, rfl, plain_ldm i8 i9⟩, by omega, by omega, hc8, (KP7.out.mono (fun i hi e => Or.inl e)).tr k8⟩
        by_cases t1 : y = 1
        · go_upto_region 15 with (fail)
          refine memR15_ok w7 HC7.out (by omega) (by omega) _ ?_
          intro w8 _ _ _ _ _ _ _ _ _ _ y8 y9 a8 v8 hc8 i8 i9 g8 g8' k8
          go_wp2_with fail
          go_end0
          exact ⟨_, a8, v8, rfl, Or.inl ⟨_, rfl, plain_stm i8 i9⟩, by omega, by omega, hc8, (KP7.out.mono (fun i hi e => Or.inl e)).tr k8⟩
        by_cases t2 : y = 2
        · go_wp2_with fail
          refine (reg_any w7 HC7.out (by omega)).mono ?_
          rintro e w8 ⟨y8, a8, rfl, i8, g8, g8', hc8, k8⟩
          have I8 := Lib.hid i8
          have HC8 := Lib.hid hc8
          have KP8 := Lib.hid (KP7.out.tr k8)
          clear hc8 k8 i8
          go_wp2_with fail
          refine (add_any w8 HC8.out (by omega) ⟨7, 0, y8, 0, 0, bank, 0, near, 0⟩).mono ?_
          rintro e w9 ⟨rfl, v9, hc9, k9⟩
          have HC9 := Lib.hid hc9
          have K9 := Lib.hid k9
          clear hc9 k9
          go_wp2_with fail
          go_end0
          exact ⟨_, a8, v9, rfl, Or.inl ⟨_, rfl, plain_lds I8.out ⟨b1, b2⟩ ⟨n1, n2⟩⟩, by omega, by omega, HC9.out, (KP8.out.mono (fun i hi e => Or.inl e)).trans K9.out (fun i hi e => Or.inr e)⟩
        by_cases t3 : y = 3
        · go_wp2_with fail
          refine (reg_any w7 HC7.out (by omega)).mono ?_
          rintro e w8 ⟨y8, a8, rfl, i8, g8, g8', hc8, k8⟩
          have I8 := Lib.hid i8
          have HC8 := Lib.hid hc8
          have KP8 := Lib.hid (KP7.out.tr k8)
          clear hc8 k8 i8
          go_wp2_with fail
          refine (add_any w8 HC8.out (by omega) ⟨8, 0, 0, 0, y8, bank, 0, near, 0⟩).mono ?_
          rintro e w9 ⟨rfl, v9, hc9, k9⟩
          have HC9 := Lib.hid hc9
          have K9 := Lib.hid k9
          clear hc9 k9
          go_wp2_with fail
          go_end0
          exact ⟨_, a8, v9, rfl, Or.inl ⟨_, rfl, plain_sts I8.out ⟨b1, b2⟩ ⟨n1, n2⟩⟩, by omega, by omega, HC9.out, (KP8.out.mono (fun i hi e => Or.inl e)).trans K9.out (fun i hi e => Or.inr e)⟩
        by_cases t4 : y = 4
        · go_wp2_with fail
          refine (next_any w7 p A n c l a7 8 HC7.out.str (by omega) (by omega)).mono ?_
          rintro e w8 ⟨y8, a8, rfl, ⟨i8, j8, -⟩, g8, g8', hs8, k8⟩
          have I8 := Lib.hid (And.intro i8 (j8 (by omega)))
          have HC8 := Lib.hid (HC7.out.moved hs8 k8)
          have KP8 := Lib.hid (KP7.out.tr k8)
          clear hs8 k8 i8 j8
          go_wp2_with fail
          refine (add_any w8 HC8.out (by omega) ⟨9, 0, y8, 0, 0, bank, 0, near, 0⟩).mono ?_
          rintro e w9 ⟨rfl, v9, hc9, k9⟩
          have HC9 := Lib.hid hc9
          have K9 := Lib.hid k9
          clear hc9 k9
          go_wp2_with fail
          go_end0
          exact ⟨_, a8, v9, rfl, Or.inl ⟨_, rfl, plain_vld I8.out ⟨b1, b2⟩ ⟨n1, n2⟩⟩, by omega, by omega, HC9.out, (KP8.out.mono (fun i hi e => Or.inl e)).trans K9.out (fun i hi e => Or.inr e)⟩
        by_cases t5 : y = 5
        · go_wp2_with fail
          refine (next_any w7 p A n c l a7 8 HC7.out.str (by omega) (by omega)).mono ?_
          rintro e w8 ⟨y8, a8, rfl, ⟨i8, j8, -⟩, g8, g8', hs8, k8⟩
          have I8 := Lib.hid (And.intro i8 (j8 (by omega)))
          have HC8 := Lib.hid (HC7.out.moved hs8 k8)
          have KP8 := Lib.hid (KP7.out.tr k8)
          clear hs8 k8 i8 j8
          go_wp2_with fail
          refine (add_any w8 HC8.out (by omega) ⟨10, 0, 0, 0, y8, bank, 0, near, 0⟩).mono ?_
          rintro e w9 ⟨rfl, v9, hc9, k9⟩
          have HC9 := Lib.hid hc9
          have K9 := Lib.hid k9
          clear hc9 k9
          go_wp2_with fail
          go_end0
          exact ⟨_, a8, v9, rfl, Or.inl ⟨_, rfl, plain_vst I8.out ⟨b1, b2⟩ ⟨n1, n2⟩⟩, by omega, by omega, HC9.out, (KP8.out.mono (fun i hi e => Or.inl e)).trans K9.out (fun i hi e => Or.inr e)⟩
        by_cases t6 : y = 6
        · go_wp2_with fail
          refine (next_any w7 p A n c l a7 4 HC7.out.str (by omega) (by omega)).mono ?_
          rintro e w8 ⟨y8, a8, rfl, ⟨i8, j8, -⟩, g8, g8', hs8, k8⟩
          have I8 := Lib.hid (And.intro i8 (j8 (by omega)))
          have HC8 := Lib.hid (HC7.out.moved hs8 k8)
          have KP8 := Lib.hid (KP7.out.tr k8)
          clear hs8 k8 i8 j8
          go_wp2_with fail
          refine (add_any w8 HC8.out (by omega) ⟨14, 0, 0, 0, 0, bank, 0, near, y8⟩).mono ?_
          rintro e w9 ⟨rfl, v9, hc9, k9⟩
          have HC9 := Lib.hid hc9
          have K9 := Lib.hid k9
          clear hc9 k9
          go_wp2_with fail
          go_end0
          exact ⟨_, a8, v9, rfl, Or.inl ⟨_, rfl, plain_wts I8.out ⟨b1, b2⟩ ⟨n1, n2⟩⟩, by omega, by omega, HC9.out, (KP8.out.mono (fun i hi e => Or.inl e)).trans K9.out (fun i hi e => Or.inr e)⟩
        have t7 : y = 7 := by omega
        go_upto_region 9 with (fail)
        refine memR9_ok w7 HC7.out (by omega) (by omega) HM.out _ ?_
        intro w8 _ _ _ _ _ _ _ _ _ _ _ _ _ _ _ _ _ _ _ _ _ _ _ _ _ _ _ _ _ y1 y2 y3 y4 a8 v8 hc8 i1 i2 i3 i4 g8 g8' k8
        have HC8 := Lib.hid hc8
        have KP8 := Lib.hid ((KP7.out.mono (fun i hi (e : i = p) => (Or.inl e : i = p ∨ B ≤ i))).tr k8)
        have I8 := Lib.hid (plain_tr (m := m) i1 i2 ⟨b1, b2⟩ ⟨i3.1, by omega⟩ ⟨i4.1, by omega⟩)
        have c0 : w8.cell? ⟨q, 0, none⟩ = some (.pointer (some ⟨p, 0, none⟩)) := hc8.blk.cell 0
        clear hc8 k8 i1 i2 i3 i4 HC7 KP7
        go_wp2_with fail
        refine (flip_any w8 p A n c l a8 2 HC8.out.str (by omega) (by omega)).mono ?_
        rintro e w10 ⟨b, a10, rfl, g10, g10', hs10, k10⟩
        have HC10 := Lib.hid (HC8.out.moved hs10 k10)
        have KP10 := Lib.hid (KP8.out.tr (k10.mono (fun i hi (e : i = p) => (Or.inl e : i = p ∨ B ≤ i))))
        clear hs10 k10 HC8 KP8
        cases b with
        | false =>
          go_wp2_with fail
          go_end0
          exact ⟨_, a10, v8, rfl, Or.inl ⟨_, rfl, I8.out⟩, by omega, by omega, HC10.out, KP10.out⟩
        | true =>
          go_upto_region 11 with (fail)
          refine memR11_ok w10 HC10.out (by omega) (by rw [List.length_append]; simp; omega) HM.out _ ?_
          intro w11 _ _ _ _ _ _ _ _ _ _ _ _ _ y11 a11 v11 hc11 i11 g11 g11' k11
          go_wp2_with fail
          go_end0
          refine ⟨_, a11, v11, rfl, Or.inr ⟨_, _, rfl, I8.out, plain_wait i11⟩, by omega, by omega, ?_, KP10.out.tr k11⟩
          rw [List.append_assoc] at hc11
          exact hc11
end Go.Proofs.YtpcejpcbkjnlkaaGreatDoor

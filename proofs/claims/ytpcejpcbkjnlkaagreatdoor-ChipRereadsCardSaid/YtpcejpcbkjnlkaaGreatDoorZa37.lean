/- coder.one: an instruction, or a loop. Printed by a small program once, then mended by hand. Stream.Code: the coder's machine is set. Printed by gen_rely2.py. Stream.Code: code as the generator makes it. Printed by gen_chip7.py. -/
import Derived.Test.YtpcejpcbkjnlkaaGreatDoorZa32
import Derived.Test.YtpcejpcbkjnlkaaGreatDoorZa33
import Derived.Test.YtpcejpcbkjnlkaaGreatDoorZa35
import Derived.Test.YtpcejpcbkjnlkaaGreatDoorZa36
import Derived.Test.YtpcejpcbkjnlkaaGreatDoorZa22
import Derived.Test.YtpcejpcbkjnlkaaGreatDoorZa25
set_option linter.unusedVariables false
namespace Go.Proofs.YtpcejpcbkjnlkaaGreatDoor
open Go.RowKit

def OnePost (w : World) (B p q : Nat) (A : Option Addr) (n c : Nat) (l : List Int) (a : Int) (m : Mach) (st : Int) (xs : List Ins) (d E : Nat) (e : Ending) (w' : World) : Prop :=
  ∃ (ys : List Ins) (a' : Int) (v' : Value), e = .returned (.tuple #[]) ∧ Item m d ys ∧ ys.length ≤ 2 * E ∧ a ≤ a' ∧ a' ≤ a + 32 * (E : Int) ∧ Cod w' B p q A n c l a' m st v' (xs ++ ys) ∧ Keeps (fun i => i = p ∨ B ≤ i) w w'
theorem plain_loop {m : Mach} {y z u t : Int} (h1 : 1 ≤ y ∧ y ≤ 5) (h2 : -1 ≤ z ∧ z ≤ 2) (h3 : 0 ≤ u ∧ u ≤ 5) (h4 : 0 ≤ t ∧ t ≤ 4) : LoopI m ⟨3, 0, y, 0, 0, z, 0, u, t⟩ := by
  refine ⟨⟨_, rfl, fun _ => by first | rfl | contradiction, fun _ => by first | rfl | contradiction, ?_, ?_, ?_, ?_, ?_, ?_, by simp, ?_⟩, rfl, h4.1, h4.2⟩ <;> (first | (show fieldOk _ _ _ _; dsimp only; refine ⟨fun _ => ?_, fun _ => ?_, fun _ => ?_, fun _ => ?_, fun _ => ?_, fun _ => ?_⟩ <;> omega) | (show extraOk _ _ _; unfold extraOk; dsimp only; refine ⟨fun _ => ?_, fun _ => ?_, fun _ => ?_, fun _ => ?_, fun _ => ?_⟩ <;> omega))
set_option maxRecDepth 100000 in
set_option maxHeartbeats 16000000 in
theorem one_step {m : Mach} {st : Int} {B p q : Nat} {A : Option Addr} {n c : Nat} {l : List Int} (hm : 1 ≤ m.queues ∧ m.queues ≤ 4) (hln : 1 ≤ m.lanes ∧ m.lanes ≤ 100) (hst : 0 ≤ st ∧ st ≤ 20) (d E : Nat) (D : Int) (hD : D = d) (hd5 : d ≤ 5) (hE1 : 1 ≤ E)
    (IH : ∀ d', d = d' + 1 → ∃ E', E = 5 * E' ∧ 1 ≤ E' ∧ ∀ (W : World) (a : Int) (v : Value) (xs : List Ins), Cod W B p q A n c l a m st v xs → a + 32 * (E' : Int) ≤ 1000000 → xs.length + 2 * E' ≤ 900000 → Calls Tryz.prog 18 #[.pointer (some ⟨q, 0, none⟩), .int .i64 (d' : Int)] W (OnePost W B p q A n c l a m st xs d' E'))
    (w : World) (a : Int) (v : Value) (xs : List Ins) (h : Cod w B p q A n c l a m st v xs) (ha : a + 32 * (E : Int) ≤ 1000000) (hl : xs.length + 2 * E ≤ 900000) :
    Calls Tryz.prog 18 #[.pointer (some ⟨q, 0, none⟩), .int .i64 D] w (OnePost w B p q A n c l a m st xs d E) := by
  have hpB := h.pB
  have hqB := h.Bq
  obtain ⟨V, cv, rfl, -, -⟩ := h.own.shape
  have c0 : w.cell? ⟨q, 0, none⟩ = some (.pointer (some ⟨p, 0, none⟩)) := h.blk.cell 0
  have c6 : w.cell? ⟨q, 6, none⟩ = some (.slice V xs.length cv) := h.blk.cell 6
  have HC := Lib.hid h
  have HIH := Lib.hid IH
  clear h IH
  generalize hN : xs.length = N at *
  go_enter Tryz.func18, Tryz.ntmps18
  go_wp2_with fail
  refine (next_any w p A n c l a 12 HC.out.str (by omega) (by omega)).mono ?_
  rintro e w1 ⟨y, a1, rfl, ⟨i1, j1, -⟩, g1, g1', hs1, k1⟩
  have j1 := j1 (by omega)
  have HC1 := Lib.hid (HC.out.moved hs1 k1)
  have KP1 := Lib.hid (k1.mono (fun i hi (e : i = p) => (Or.inl e : i = p ∨ B ≤ i)))
  clear hs1 k1 HC c0 c6
  go_upto_block 0 with (fail)
  go_cut [5] (fun _ wc => ∃ (ys : List Ins) (a2 : Int) (v2 : Value), Simple m ys ∧ a ≤ a2 ∧ a2 ≤ a + 20 ∧ Cod wc B p q A n c l a2 m st v2 (xs ++ ys) ∧ Keeps (fun i => i = p ∨ B ≤ i) w wc)
  case first =>
    by_cases t0 : y < 2
    · go_upto_region 3 with (fail)
      refine oneR3_ok w1 HC1.out (by omega) (by omega) _ ?_
      intro w2 _ _ _ _ _ _ _ _ _ _ _ _ _ _ _ _ _ _ _ y1 y2 y3 a2 v2 hc2 i2 i3 g2 g2' k2
      (try go_wp2_with fail)
      go_meet
      case rel => exact ⟨_, a2, v2, Or.inr (Or.inl ⟨_, rfl, (plain_num i2 i3).i⟩), by omega, by omega, hc2, KP1.out.tr k2⟩
    by_cases t1 : y < 4
    · have c0 : w1.cell? ⟨q, 0, none⟩ = some (.pointer (some ⟨p, 0, none⟩)) := HC1.out.blk.cell 0; go_wp2_with fail; refine (op_any w1 HC1.out (by omega) 2 6 (by omega) (by omega)).mono ?_; rintro e w2 ⟨x, a2, rfl, hx, g2, g2', hc2, k2⟩; have HX := Lib.hid hx; have HC2 := Lib.hid hc2; have KP2 := Lib.hid (KP1.out.tr (k2.mono (fun i hi (e : i = p) => (Or.inl e : i = p ∨ B ≤ i)))); clear hx hc2 k2; go_wp2_with fail; refine (add_any w2 HC2.out (by omega) x).mono ?_; rintro e w3 ⟨rfl, v3, hc3, k3⟩; have HC3 := Lib.hid hc3; have KP3 := Lib.hid (KP2.out.tr (k3.mono (fun i hi (e : B ≤ i) => (Or.inr e : i = p ∨ B ≤ i)))); clear hc3 k3; (try go_wp2_with fail); go_meet; exact ⟨[x], a2, v3, Or.inr (Or.inl ⟨x, rfl, (plain_op HX.out (Or.inl ⟨rfl, by omega⟩)).i⟩), by omega, by omega, HC3.out, KP3.out⟩
    by_cases t2 : y < 7
    · have c0 : w1.cell? ⟨q, 0, none⟩ = some (.pointer (some ⟨p, 0, none⟩)) := HC1.out.blk.cell 0
      go_wp2_with fail
      refine (memory_any w1 HC1.out (by omega) (by omega) hm hst).mono ?_
      rintro e w2 ⟨ys, a2, v2, rfl, hy, g2, g2', hc2, k2⟩
      have HC2 := Lib.hid hc2
      have KP2 := Lib.hid (KP1.out.tr k2)
      have HY := Lib.hid hy
      clear hc2 k2 hy
      (try go_wp2_with fail)
      go_meet
      case rel => exact ⟨ys, a2, v2, HY.out.simple, by omega, by omega, HC2.out, KP2.out⟩
    by_cases t3 : y = 7
    · have c0 : w1.cell? ⟨q, 0, none⟩ = some (.pointer (some ⟨p, 0, none⟩)) := HC1.out.blk.cell 0; go_wp2_with fail; refine (op_any w1 HC1.out (by omega) 11 8 (by omega) (by omega)).mono ?_; rintro e w2 ⟨x, a2, rfl, hx, g2, g2', hc2, k2⟩; have HX := Lib.hid hx; have HC2 := Lib.hid hc2; have KP2 := Lib.hid (KP1.out.tr (k2.mono (fun i hi (e : i = p) => (Or.inl e : i = p ∨ B ≤ i)))); clear hx hc2 k2; go_wp2_with fail; refine (add_any w2 HC2.out (by omega) x).mono ?_; rintro e w3 ⟨rfl, v3, hc3, k3⟩; have HC3 := Lib.hid hc3; have KP3 := Lib.hid (KP2.out.tr (k3.mono (fun i hi (e : B ≤ i) => (Or.inr e : i = p ∨ B ≤ i)))); clear hc3 k3; (try go_wp2_with fail); go_meet; exact ⟨[x], a2, v3, Or.inr (Or.inl ⟨x, rfl, (plain_op HX.out (Or.inr ⟨rfl, by omega⟩)).i⟩), by omega, by omega, HC3.out, KP3.out⟩
    by_cases t4 : y = 8
    · go_upto_region 11 with (fail)
      refine oneR11_ok w1 HC1.out (by omega) (by omega) hm _ ?_
      intro w2 _ _ _ _ _ _ _ _ _ _ _ _ _ y1 a2 v2 hc2 i2 g2 g2' k2
      (try go_wp2_with fail)
      go_meet
      case rel => exact ⟨_, a2, v2, Or.inr (Or.inl ⟨_, rfl, (plain_wait i2).i⟩), by omega, by omega, hc2, KP1.out.tr k2⟩
    by_cases t5 : y = 9
    · go_upto_region 13 with (fail)
      refine oneR13_ok w1 HC1.out (by omega) (by omega) hln _ ?_
      intro w2 _ _ _ _ _ _ _ _ _ _ _ _ _ _ _ _ _ _ _ _ _ _ _ _ _ _ _ _ _ _ _ _ _ _ _ _ _ _ _ _ _ _ _ _ _ _ _ _ _ x a2 v2 hc2 i2 g2 g2' k2
      (try go_wp2_with fail)
      go_meet
      case rel => exact ⟨_, a2, v2, Or.inr (Or.inl ⟨_, rfl, i2.i⟩), by omega, by omega, hc2, KP1.out.tr k2⟩
    by_cases hd : 0 < D
    · obtain ⟨d', rfl⟩ : ∃ d', d = d' + 1 := ⟨d - 1, by omega⟩
      obtain ⟨E', rfl, hE', ih⟩ := HIH.out d' rfl
      have HIH' := Lib.hid ih
      clear ih HIH
      have hD1 : IntKind.i64.wrap (D - 1) = (d' : Int) := (IntWalk.i64_in _ ⟨by omega, by omega⟩).trans (by omega)
      go_upto_region 15 with (fail)
      refine oneR15_ok w1 HC1.out (by omega) (by omega) _ ?_
      intro w2 _ _ _ _ _ _ _ _ _ _ _ _ _ _ _ _ _ _ _ _ _ _ _ _ _ _ y1 y2 y3 y4 a2 v2 hc2 i2 i3 i4 i5 g2 g2' k2
      have HX := Lib.hid (plain_loop (m := m) i2 i3 i4 i5)
      generalize (⟨3, 0, y1, 0, 0, y2, 0, y3, y4⟩ : Ins) = x at *
      have c0 : w2.cell? ⟨q, 0, none⟩ = some (.pointer (some ⟨p, 0, none⟩)) := hc2.blk.cell 0
      have HC2 := Lib.hid hc2
      have KP2 := Lib.hid (KP1.out.tr k2)
      clear hc2 k2 i2 i3 i4 i5 HC1 KP1
      go_wp2_with fail
      refine (range_any w2 p A n c l a2 0 4 HC2.out.str (by omega) (by omega) (by omega) (by omega)).mono ?_
      rintro e w3 ⟨r, a3, rfl, ⟨r1, r2⟩, g3, g3', hs3, k3⟩
      have HC3 := Lib.hid (HC2.out.moved hs3 k3)
      have KP3 := Lib.hid (KP2.out.tr (k3.mono (fun i hi (e : i = p) => (Or.inl e : i = p ∨ B ≤ i))))
      clear hs3 k3 HC2 KP2 c0
      go_wp2_with fail
      go_loopw [159] (fun i wr => ∃ (k t : Nat) (bs : List Ins) (a4 : Int) (v4 : Value), i = .int .i64 k ∧ (k : Int) ≤ r ∧ t = k * E' ∧ Seg m d' k bs ∧ bs.length ≤ 2 * t ∧ a ≤ a4 ∧ a4 ≤ a3 + 32 * (t : Int) ∧ Cod wr B p q A n c l a4 m st v4 (xs ++ x :: bs) ∧ Keeps (fun i => i = p ∨ B ≤ i) w wr) (fun i _ => 5 - (intOf i).toNat)
      case atStart => exact ⟨0, 0, [], a3, v2, rfl, r1, by simp, Seg.nil d', by simp, by omega, by omega, HC3.out, KP3.out⟩
      obtain ⟨k, t, bs, a4, v4, rfl, hk, ht, hs, hb, g4, g4', hc4, k4⟩ := hrel
      have ht4 : t ≤ 4 * E' := by rw [ht]; exact Nat.mul_le_mul_right _ (by omega)
      have HC4 := Lib.hid hc4
      have KP4 := Lib.hid k4
      have HS := Lib.hid hs
      have hlen : (xs ++ x :: bs).length = N + 1 + bs.length := by rw [List.length_append, List.length_cons, hN]; omega
      clear hc4 k4 hs HC3 KP3
      by_cases hlt : (k : Int) < r
      · have ht5 : t + E' ≤ 4 * E' := by rw [ht, ← Nat.succ_mul]; exact Nat.mul_le_mul_right _ (by omega)
        go_wp2_with fail
        refine (HIH'.out _ a4 v4 (xs ++ x :: bs) HC4.out (by omega) (by omega)).mono ?_
        rintro e w5 ⟨zs, a5, v5, rfl, hz, zl, g5, g5', hc5, k5⟩
        have HC5 := Lib.hid hc5
        have KP5 := Lib.hid (KP4.out.tr k5)
        have HZ := Lib.hid hz
        clear hc5 k5 hz HC4 KP4
        go_wp2_with fail
        go_roundw
        case rel => exact ⟨k + 1, t + E', bs ++ zs, a5, v5, by go_num, by omega, by rw [ht, Nat.succ_mul], HS.out.item HZ.out, by rw [List.length_append]; omega, by omega, by omega, by rw [← List.cons_append, ← List.append_assoc]; exact HC5.out, KP5.out⟩
        case measure => simp [intOf]; omega
      · go_wp2_with fail
        refine (add_any _ HC4.out (by omega) endIns).mono ?_
        rintro e w6 ⟨rfl, v6, hc6, k6⟩
        have HC6 := Lib.hid hc6
        have KP6 := Lib.hid (KP4.out.tr (k6.mono (fun i hi (e : B ≤ i) => (Or.inr e : i = p ∨ B ≤ i))))
        clear hc6 k6 HC4 KP4
        go_wp2_with fail
        go_end0
        exact ⟨x :: (bs ++ [endIns]), a4, v6, rfl, Or.inr ⟨d', k, x, bs, rfl, rfl, HX.out, HS.out, by omega⟩, by rw [List.length_cons, List.length_append, List.length_singleton]; omega, by omega, by omega, by rw [← List.cons_append, ← List.append_assoc]; exact HC6.out, KP6.out⟩
    · go_wp2_with fail
      go_meet
      case rel => exact ⟨[], a1, _, Or.inl rfl, by omega, by omega, by rw [List.append_nil]; exact HC1.out, KP1.out⟩
  case rest =>
    obtain ⟨ys, a2, v2, hsi, g2, g2', hc, hk⟩ := hcut
    have hy2 := hsi.length
    have KP2 := Lib.hid hk
    clear hk HC1 KP1 HIH
    rcases hsi.head with rfl | ⟨x, zs, rfl, hx, hsim⟩
    · obtain ⟨V2, cv2, rfl, -, -⟩ := hc.own.shape
      have c6 : wc.cell? ⟨q, 6, none⟩ = some (.slice V2 (xs ++ []).length cv2) := hc.blk.cell 6
      have HC2 := Lib.hid hc
      rw [List.append_nil, hN] at c6
      clear hc hsi
      go_wp2_with fail
      go_end0
      exact ⟨[], a2, _, rfl, Or.inl (Or.inl rfl), by simp, by omega, by omega, HC2.out, KP2.out⟩
    · obtain ⟨g, cap, rfl, -, -, hgl, -⟩ := hc.own.form (by simp; omega)
      have hK : (xs ++ x :: zs).length = N + 1 + zs.length := by rw [List.length_append, List.length_cons, hN]; omega
      generalize hKK : (xs ++ x :: zs).length = K at *
      have HKK := Lib.hid hKK
      clear hKK
      have hNK : N < K := by omega
      rw [List.length_cons] at hy2
      have c6 : wc.cell? ⟨q, 6, none⟩ = some (.slice (some ⟨g, 0, none⟩) K cap) := hc.blk.cell 6
      have c0 : wc.cell? ⟨q, 0, none⟩ = some (.pointer (some ⟨p, 0, none⟩)) := hc.blk.cell 0
      have HC2 := Lib.hid hc
      have HX := Lib.hid (And.intro hx hsim)
      clear hc hsi hx hsim
      go_wp2_with fail
      refine (flip_any wc p A n c l a2 5 HC2.out.str (by omega) (by omega)).mono ?_
      rintro e w3 ⟨b, a3, rfl, g3, g3', hs3, k3⟩
      have HC3 := Lib.hid (HC2.out.moved hs3 k3)
      have KP3 := Lib.hid (KP2.out.tr (k3.mono (fun i hi (e : i = p) => (Or.inl e : i = p ∨ B ≤ i))))
      clear hs3 k3 HC2 KP2 c0 c6
      cases b with
      | false =>
        go_wp2_with fail
        go_end0
        exact ⟨x :: zs, a3, _, rfl, Or.inl (HX.out.2 x HX.out.1), by rw [List.length_cons]; omega, by omega, by omega, HC3.out, KP3.out⟩
      | true =>
        have c6 : ∀ o, (w3.alloc o).cell? ⟨q, 6, none⟩ = some (.slice (some ⟨g, 0, none⟩) K cap) := fun o => (HC3.out.alloc o).blk.cell 6
        have c8 : ∀ o, (w3.alloc o).cell? ⟨g, N * 9, none⟩ = some (.int .i64 x.op) := fun o => by have hh := (HC3.out.alloc o).at_ 0 (by omega); rw [hN] at hh; exact hh
        go_wp2_with fail
        refine (contains_some _ _ _ 6 6 [1, 2, 5, 6, 7, 8] (reads_lit (B := 0) w3 [1, 2, 5, 6, 7, 8] (Nat.zero_le _)) (by omega) x.op).mono ?_
        rintro e w4 ⟨b, rfl, hb, rfl⟩
        have HB := Lib.hid hb
        have HC4 := Lib.hid (HC3.out.alloc (.cells (ints [1, 2, 5, 6, 7, 8]).toArray 3))
        have KP4 := Lib.hid (KP3.out.alloc (.cells (ints [1, 2, 5, 6, 7, 8]).toArray 3))
        clear hb HC3 KP3 c6 c8
        cases b with
        | false =>
          go_wp2_with fail
          go_end0
          exact ⟨x :: zs, a3, _, rfl, Or.inl (HX.out.2 x HX.out.1), by rw [List.length_cons]; omega, by omega, by omega, HC4.out, KP4.out⟩
        | true =>
          go_upto_region 22 with (fail)
          refine oneR22_ok _ HC4.out (by omega) (by have := HKK.out; omega) rfl rfl hN hNK _ ?_
          intro w5 _ _ _ _ _ _ _ _ _ _ _ _ y1 a5 hc5 i5 g5 g5' k5
          (try go_wp2_with fail)
          go_end0
          exact ⟨{ x with p := y1 } :: zs, a5, _, rfl, Or.inl (HX.out.2 _ (pred_ok HX.out.1 (HB.out (by trivial)) i5)), by rw [List.length_cons]; omega, by omega, by omega, hc5, KP4.out.tr k5⟩
theorem one_any {m : Mach} {st : Int} {B p q : Nat} {A : Option Addr} {n c : Nat} {l : List Int} (hm : 1 ≤ m.queues ∧ m.queues ≤ 4) (hln : 1 ≤ m.lanes ∧ m.lanes ≤ 100) (hst : 0 ≤ st ∧ st ≤ 20) : ∀ (d : Nat), d ≤ 5 → ∀ (w : World) (a : Int) (v : Value) (xs : List Ins), Cod w B p q A n c l a m st v xs → a + 32 * ((5 ^ d : Nat) : Int) ≤ 1000000 → xs.length + 2 * 5 ^ d ≤ 900000 →
    Calls Tryz.prog 18 #[.pointer (some ⟨q, 0, none⟩), .int .i64 (d : Int)] w (OnePost w B p q A n c l a m st xs d (5 ^ d))
  | 0, _, w, a, v, xs, h, ha, hl => one_step hm hln hst 0 (5 ^ 0) _ rfl (by omega) (by omega) (fun d' e => absurd e (by omega)) w a v xs h ha hl
  | d + 1, hd, w, a, v, xs, h, ha, hl => one_step hm hln hst (d + 1) (5 ^ (d + 1)) _ rfl hd (Nat.pos_of_ne_zero (by simp)) (fun d' e => by
      obtain rfl : d = d' := by omega
      exact ⟨5 ^ d, by rw [Nat.pow_succ, Nat.mul_comm], Nat.pos_of_ne_zero (by simp), fun W a v xs h ha hl => one_any hm hln hst d (by omega) W a v xs h ha hl⟩) w a v xs h ha hl
end Go.Proofs.YtpcejpcbkjnlkaaGreatDoor

namespace Go.Proofs.YtpcejpcbkjnlkaaGreatDoor
open Go.RowKit

def Mach.coder (m : Mach) : Mach := { m with lanes := max 1 (min m.lanes 8), queues := max 1 (min m.queues 4) }
def Mach.mid (m : Mach) : Mach := { m with queues := max 1 (min m.queues 4) }
noncomputable def codeR2 : Code := (Tryz.f5.body.bind (findRg 2)).getD .skip
def codeV2 (b p q : Nat) (m : Mach) (st : Int) (v : Value) : Nat → Value → World → Prop
  | 0 => fun x _ => x = .pointer (some ⟨q, 0, none⟩)
  | 1 => fun x _ => x = .pointer (some ⟨q, 0, none⟩)
  | 2 => fun x _ => x = .pointer (some ⟨b, 4, none⟩)
  | 3 => fun x _ => x = .int .i64 (m.queues)
  | 4 => fun x _ => x = .int .i64 (min m.queues 4)
  | 5 => fun x _ => x = .int .i64 (max 1 (min m.queues 4))
  | 6 => fun x _ => x = .pointer (some ⟨b, 3, none⟩)
  | 7 => fun x _ => x = .int .i64 (m.lanes)
  | 8 => fun x _ => x = .int .i64 (min m.lanes 8)
  | 9 => fun x _ => x = .int .i64 (max 1 (min m.lanes 8))
  | 10 => fun x _ => x = .pointer (some ⟨q, 0, none⟩)
  | 11 => fun x _ => x = .pointer (some ⟨q, 1, none⟩)
  | 12 => fun x _ => x = .pointer (some ⟨q, 5, none⟩)
  | 13 => fun _ w => Blk w q 51 (coderCells p m.mid v st)
  | 14 => fun x _ => x = .pointer (some ⟨q, 0, none⟩)
  | 15 => fun x _ => x = .pointer (some ⟨q, 1, none⟩)
  | 16 => fun x _ => x = .pointer (some ⟨q, 4, none⟩)
  | _ => fun _ _ => True
def codeS2 (W : World) (b p q : Nat) (m : Mach) (st : Int) (v : Value) (_k : Nat) (w : World) : Prop :=
  Keeps (· = q) W w ∧ Blk w b 27 m.cells ∧ (Blk w q 51 (coderCells p m v st) ∨ Blk w q 51 (coderCells p m.mid v st))
def codeK2 (p q : Nat) (m : Mach) (st : Int) (v : Value) (w w' : World) : Prop := Blk w q 51 (coderCells p m.mid v st) → Blk w' q 51 (coderCells p m.mid v st)
theorem codeV2_stab {b p q : Nat} {m : Mach} {st : Int} {v : Value} (i : Nat) (x : Value) (w w' : World) (hk : codeK2 p q m st v w w') (h : codeV2 b p q m st v i x w) : codeV2 b p q m st v i x w' := by
  by_cases h13 : i = 13
  · subst h13
    exact hk h
  unfold codeV2 at h ⊢
  split at h <;> first | exact h | contradiction
set_option maxRecDepth 100000 in
set_option maxHeartbeats 8000000 in
theorem codeR2_ok (W : World) {b p q : Nat} {m : Mach} {st : Int} {v : Value} (hb : Blk W b 27 m.cells) (hq : Blk W q 51 (coderCells p m v st)) (hne : b ≠ q) {s0 s1 s2 s3 s4 s6 s7 s8 s10 s11 s12 s13 s14 s15 s16 s17 s18 s19 s20 s21 s22 s23 s24 s25 s26 s27 s28 s29 s30 s31 s32 s33 s34 s35 s36 s37 s38 s39 s40 s41 s42 s43 s44 s45 s46 s47 s48 s49 s50 s51 s52 s53 s54 : Value} (Q : Exit → Act → World → Prop)
    (hQ : ∀ (w' : World) (y14 y15 y16 y17 y18 y19 y20 y21 y22 y23 y24 y25 y26 y27 y28 y29 : Value), Blk w' q 51 (coderCells p m.coder v st) → Keeps (· = q) W w' → Q .normal ⟨#[s0, s1, s2, s3, s4, .pointer (some ⟨b, 0, none⟩), s6, s7, s8, .pointer (some ⟨q, 0, none⟩), s10, s11, s12, s13, y14, y15, y16, y17, y18, y19, y20, y21, y22, y23, y24, y25, y26, y27, y28, y29, s30, s31, s32, s33, s34, s35, s36, s37, s38, s39, s40, s41, s42, s43, s44, s45, s46, s47, s48, s49, s50, s51, s52, s53, s54], []⟩ w') :
    Code.wp Tryz.prog codeR2 Q ⟨#[s0, s1, s2, s3, s4, .pointer (some ⟨b, 0, none⟩), s6, s7, s8, .pointer (some ⟨q, 0, none⟩), s10, s11, s12, s13, s14, s15, s16, s17, s18, s19, s20, s21, s22, s23, s24, s25, s26, s27, s28, s29, s30, s31, s32, s33, s34, s35, s36, s37, s38, s39, s40, s41, s42, s43, s44, s45, s46, s47, s48, s49, s50, s51, s52, s53, s54], []⟩ W := by
  conv => arg 2; whnf
  have HQ := Lib.hid hQ
  have hS0 : codeS2 W b p q m st v 0 W.drew := ⟨(Keeps.refl (· = q) W).drew, hb.drew, Or.inl hq.drew⟩
  clear hb hq hQ
  refine wp_region_end (fun v => ⟨#[s0, s1, s2, s3, s4, .pointer (some ⟨b, 0, none⟩), s6, s7, s8, .pointer (some ⟨q, 0, none⟩), s10, s11, s12, s13, v 0, v 1, v 2, v 3, v 4, v 5, v 6, v 7, v 8, v 9, v 10, v 11, v 12, v 14, v 15, v 16, s30, s31, s32, s33, s34, s35, s36, s37, s38, s39, s40, s41, s42, s43, s44, s45, s46, s47, s48, s49, s50, s51, s52, s53, s54], []⟩) (codeS2 W b p q m st v) (codeK2 p q m st v) (codeV2 b p q m st v) 17 (by kernel_rfl) rfl (by kernel_rfl) (by kernel_rfl) (by kernel_rfl) (fun _ => by kernel_rfl) hS0 codeV2_stab ?_ ?_
  · intro i o hi ho k w u hk hS hw
    obtain ⟨hkp, hb, hq⟩ := hS
    rcases (show i = 0 ∨ i = 1 ∨ i = 2 ∨ i = 3 ∨ i = 4 ∨ i = 5 ∨ i = 6 ∨ i = 7 ∨ i = 8 ∨ i = 9 ∨ i = 10 ∨ i = 11 ∨ i = 12 ∨ i = 13 ∨ i = 14 ∨ i = 15 ∨ i = 16 by omega) with rfl | rfl | rfl | rfl | rfl | rfl | rfl | rfl | rfl | rfl | rfl | rfl | rfl | rfl | rfl | rfl | rfl
    · have e := Option.some.inj (ho : some _ = some o)
      subst e
      clear ho
      refine Or.inl ⟨by rfl, ?_⟩
      go_simp
      exact ⟨rfl, ⟨hkp, hb, hq⟩, fun h => h⟩
    · have e := Option.some.inj (ho : some _ = some o)
      subst e
      clear ho
      refine Or.inl ⟨by rfl, ?_⟩
      go_simp
      exact ⟨rfl, ⟨hkp, hb, hq⟩, fun h => h⟩
    · have e := Option.some.inj (ho : some _ = some o)
      subst e
      clear ho
      refine Or.inl ⟨by rfl, ?_⟩
      go_simp
      exact ⟨rfl, ⟨hkp, hb, hq⟩, fun h => h⟩
    · have e := Option.some.inj (ho : some _ = some o)
      subst e
      clear ho
      refine Or.inl ⟨by rfl, ?_⟩
      have h1 : u 2 = .pointer (some ⟨b, 4, none⟩) := hw 2 (by kernel_rfl)
      dsimp only
      rw [h1]
      have c0 : w.cell? ⟨b, 4, none⟩ = some (.int .i64 (m.queues)) := hb.cell 4
      go_simp
      exact ⟨rfl, ⟨hkp, hb, hq⟩, fun h => h⟩
    · have e := Option.some.inj (ho : some _ = some o)
      subst e
      clear ho
      refine Or.inl ⟨by rfl, ?_⟩
      have h1 : u 3 = .int .i64 (m.queues) := hw 3 (by kernel_rfl)
      dsimp only
      rw [h1]
      go_simp
      refine ⟨?_, ⟨hkp, hb, hq⟩, fun h => h⟩
      show Value.int _ _ = Value.int _ _
      congr 1
      (repeat' split) <;> omega
    · have e := Option.some.inj (ho : some _ = some o)
      subst e
      clear ho
      refine Or.inl ⟨by rfl, ?_⟩
      have h1 : u 4 = .int .i64 (min m.queues 4) := hw 4 (by kernel_rfl)
      dsimp only
      rw [h1]
      go_simp
      refine ⟨?_, ⟨hkp, hb, hq⟩, fun h => h⟩
      show Value.int _ _ = Value.int _ _
      congr 1
      (repeat' split) <;> omega
    · have e := Option.some.inj (ho : some _ = some o)
      subst e
      clear ho
      refine Or.inl ⟨by rfl, ?_⟩
      go_simp
      exact ⟨rfl, ⟨hkp, hb, hq⟩, fun h => h⟩
    · have e := Option.some.inj (ho : some _ = some o)
      subst e
      clear ho
      refine Or.inl ⟨by rfl, ?_⟩
      have h1 : u 6 = .pointer (some ⟨b, 3, none⟩) := hw 6 (by kernel_rfl)
      dsimp only
      rw [h1]
      have c0 : w.cell? ⟨b, 3, none⟩ = some (.int .i64 (m.lanes)) := hb.cell 3
      go_simp
      exact ⟨rfl, ⟨hkp, hb, hq⟩, fun h => h⟩
    · have e := Option.some.inj (ho : some _ = some o)
      subst e
      clear ho
      refine Or.inl ⟨by rfl, ?_⟩
      have h1 : u 7 = .int .i64 (m.lanes) := hw 7 (by kernel_rfl)
      dsimp only
      rw [h1]
      go_simp
      refine ⟨?_, ⟨hkp, hb, hq⟩, fun h => h⟩
      show Value.int _ _ = Value.int _ _
      congr 1
      (repeat' split) <;> omega
    · have e := Option.some.inj (ho : some _ = some o)
      subst e
      clear ho
      refine Or.inl ⟨by rfl, ?_⟩
      have h1 : u 8 = .int .i64 (min m.lanes 8) := hw 8 (by kernel_rfl)
      dsimp only
      rw [h1]
      go_simp
      refine ⟨?_, ⟨hkp, hb, hq⟩, fun h => h⟩
      show Value.int _ _ = Value.int _ _
      congr 1
      (repeat' split) <;> omega
    · have e := Option.some.inj (ho : some _ = some o)
      subst e
      clear ho
      refine Or.inl ⟨by rfl, ?_⟩
      have h1 : u 0 = .pointer (some ⟨q, 0, none⟩) := hw 0 (by kernel_rfl)
      dsimp only
      rw [h1]
      go_simp
      exact ⟨rfl, ⟨hkp, hb, hq⟩, fun h => h⟩
    · have e := Option.some.inj (ho : some _ = some o)
      subst e
      clear ho
      refine Or.inl ⟨by rfl, ?_⟩
      have h1 : u 10 = .pointer (some ⟨q, 0, none⟩) := hw 10 (by kernel_rfl)
      dsimp only
      rw [h1]
      go_simp
      exact ⟨rfl, ⟨hkp, hb, hq⟩, fun h => h⟩
    · have e := Option.some.inj (ho : some _ = some o)
      subst e
      clear ho
      refine Or.inl ⟨by rfl, ?_⟩
      have h1 : u 11 = .pointer (some ⟨q, 1, none⟩) := hw 11 (by kernel_rfl)
      dsimp only
      rw [h1]
      go_simp
      exact ⟨rfl, ⟨hkp, hb, hq⟩, fun h => h⟩
    · have e := Option.some.inj (ho : some _ = some o)
      subst e
      clear ho
      refine Or.inl ⟨by rfl, ?_⟩
      have h1 : u 12 = .pointer (some ⟨q, 5, none⟩) := hw 12 (by kernel_rfl)
      have h2 : u 5 = .int .i64 (max 1 (min m.queues 4)) := hw 5 (by kernel_rfl)
      dsimp only
      rw [h1, h2]
      have HQ5 : Hid (Blk (w.setCell ⟨q, 5, none⟩ (.int .i64 (max 1 (min m.queues 4)))) q 51 (coderCells p m.mid v st)) := Lib.hid (by
        rcases hq with h | h
        · exact h.set_ 5 _
        · exact h.set_ 5 _)
      have c5 : ∃ x, w.cell? ⟨q, 5, none⟩ = some (.int .i64 x) := by
        rcases hq with h | h
        · exact ⟨_, h.cell 5⟩
        · exact ⟨_, h.cell 5⟩
      have f5 : w.frozen? ⟨q, 5, none⟩ = false := by
        rcases hq with h | h
        · exact h.frozen 5
        · exact h.frozen 5
      obtain ⟨x5, c5⟩ := c5
      have HB5 := Lib.hid (Keeps.blk (Keeps.setCell (p := ⟨q, 5, none⟩) (Keeps.refl (· = q) w) (fun _ => rfl) (.int .i64 (max 1 (min m.queues 4)))) hb (fun e => hne e))
      have HK5 := Lib.hid (Keeps.setCell (p := ⟨q, 5, none⟩) hkp (fun _ => rfl) (.int .i64 (max 1 (min m.queues 4))))
      clear hq hb hkp
      generalize max 1 (min m.queues 4) = mq at *
      go_simp
      exact ⟨⟨undef, HQ5.out⟩, ⟨HK5.out, HB5.out, Or.inr HQ5.out⟩, fun _ => HQ5.out⟩
    · have e := Option.some.inj (ho : some _ = some o)
      subst e
      clear ho
      refine Or.inl ⟨by rfl, ?_⟩
      have h1 : u 1 = .pointer (some ⟨q, 0, none⟩) := hw 1 (by kernel_rfl)
      dsimp only
      rw [h1]
      go_simp
      exact ⟨rfl, ⟨hkp, hb, hq⟩, fun h => h⟩
    · have e := Option.some.inj (ho : some _ = some o)
      subst e
      clear ho
      refine Or.inl ⟨by rfl, ?_⟩
      have h1 : u 14 = .pointer (some ⟨q, 0, none⟩) := hw 14 (by kernel_rfl)
      dsimp only
      rw [h1]
      go_simp
      exact ⟨rfl, ⟨hkp, hb, hq⟩, fun h => h⟩
    · have e := Option.some.inj (ho : some _ = some o)
      subst e
      clear ho
      refine Or.inl ⟨by rfl, ?_⟩
      have h1 : u 15 = .pointer (some ⟨q, 1, none⟩) := hw 15 (by kernel_rfl)
      dsimp only
      rw [h1]
      go_simp
      exact ⟨rfl, ⟨hkp, hb, hq⟩, fun h => h⟩
  · intro o ho w u hS hV K' hK
    obtain ⟨hkp, hb, -⟩ := hS
    have e := Option.some.inj (ho : some _ = some o)
    subst e
    clear ho
    rw [if_pos (by rfl)]
    have h1 : u 16 = .pointer (some ⟨q, 4, none⟩) := hV 16 (by omega)
    have h2 : u 9 = .int .i64 (max 1 (min m.lanes 8)) := hV 9 (by omega)
    have hq : Blk w q 51 (coderCells p m.mid v st) := hV 13 (by omega)
    dsimp only
    rw [h1, h2]
    have HQ4 : Hid (Blk (w.setCell ⟨q, 4, none⟩ (.int .i64 (max 1 (min m.lanes 8)))) q 51 (coderCells p m.coder v st)) := Lib.hid (hq.set_ 4 _)
    have c4 : w.cell? ⟨q, 4, none⟩ = some (.int .i64 m.lanes) := hq.cell 4
    have f4 := hq.frozen 4
    have HK4 := Lib.hid (Keeps.setCell (p := ⟨q, 4, none⟩) hkp (fun _ => rfl) (.int .i64 (max 1 (min m.lanes 8))))
    clear hq hb hkp hV
    generalize max 1 (min m.lanes 8) = ml at *
    go_simp
    refine hK _ _ ?_
    exact HQ.out _ _ _ _ _ _ _ _ _ _ _ _ _ _ _ _ _ HQ4.out HK4.out
end Go.Proofs.YtpcejpcbkjnlkaaGreatDoor

namespace Go.Proofs.YtpcejpcbkjnlkaaGreatDoor
open Go.RowKit

theorem plain_first {m : Mach} {z : Int} (hm : 1 ≤ m.queues) (h : 0 ≤ z ∧ z < 5) : PlainIns m ⟨18, 1, 0, 0, 0, 0, 0, z, 16⟩ := plain_tr ⟨by omega, by omega⟩ ⟨by omega, by omega⟩ ⟨by omega, by omega⟩ ⟨h.1, by omega⟩ ⟨by omega, by omega⟩
def ScodePost (w : World) (p : Nat) (A : Option Addr) (n c : Nat) (l : List Int) (a : Int) (m : Mach) (e : Ending) (w' : World) : Prop :=
  ∃ (v : Value) (xs : List Ins) (a' : Int) (k : Nat), e = .returned v ∧ Own w' (fun g => w.heap.size ≤ g) 44 9 v xs.length (insL xs) ∧ Seg m.coder 3 k xs ∧ k ≤ 30 ∧ xs.length ≤ 10000 ∧ a ≤ a' ∧ a' ≤ a + 100000 ∧ Str w' p A n c l a' ∧ Keeps (· = p) w w'
set_option maxRecDepth 100000 in
set_option maxHeartbeats 8000000 in
theorem scode_any (w : World) (p : Nat) (A : Option Addr) (n c : Nat) (l : List Int) (a : Int) (h : Str w p A n c l a) (ha : a ≤ 100000) (m : Mach) (many : Int) (h0 : 0 ≤ many) (h1 : many ≤ 20) :
    Calls Tryz.prog 5 #[.pointer (some ⟨p, 0, none⟩), m.val, .int .i64 many, .int .i64 3] w (ScodePost w p A n c l a m) := by
  have hp := h.blk.lt
  have HL := Lib.hid h.low
  have hmq : 1 ≤ m.coder.queues ∧ m.coder.queues ≤ 4 := by show 1 ≤ max 1 (min m.queues 4) ∧ max 1 (min m.queues 4) ≤ 4; omega
  have hml : 1 ≤ m.coder.lanes ∧ m.coder.lanes ≤ 100 := by show 1 ≤ max 1 (min m.lanes 8) ∧ max 1 (min m.lanes 8) ≤ 100; omega
  have HMQ := Lib.hid hmq
  have HML := Lib.hid hml
  have HS := Lib.hid ((h.alloc (.cells m.cells 27)).alloc (.cells (coderCells p m (.slice none 0 0) 0) 51))
  have HK5 := Lib.hid ((Blk.new w 27 m.cells).alloc (.cells (coderCells p m (.slice none 0 0) 0) 51))
  have HK9 := Lib.hid (Blk.new (w.alloc (.cells m.cells 27)) 51 (coderCells p m (.slice none 0 0) 0))
  have HB : Hid (Keeps (fun i => i = p ∨ w.heap.size ≤ i) w ((w.alloc (.cells m.cells 27)).alloc (.cells (coderCells p m (.slice none 0 0) 0) 51))) := Lib.hid (((Keeps.refl _ w).alloc _).alloc _)
  have hz : (w.alloc (.cells m.cells 27)).heap.size = w.heap.size + 1 := by simp
  rw [hz] at HK9
  clear h hz hmq hml
  unfold Mach.val
  unfold coderCells Mach.cells at HS HB
  unfold Mach.cells
  go_enter Tryz.func5, Tryz.ntmps5
  go_upto_region 2 with (fail)
  refine codeR2_ok _ HK5.out HK9.out (by omega) _ ?_
  intro w1 _ _ _ _ _ _ _ _ _ _ _ _ _ _ _ _ hk1 kk1
  have HK1 := Lib.hid hk1
  have HS1 := Lib.hid (HS.out.far kk1 (by omega) (fun ad hn e => by have := HL.out ad hn e; omega))
  have HB1 := Lib.hid (HB.out.trans kk1 (S := fun i => i = p ∨ w.heap.size ≤ i) (fun i hi e => by have e : i = w.heap.size + 1 := e; omega))
  have HC : Hid (Cod w1 w.heap.size p (w.heap.size + 1) A n c l a m.coder 0 (.slice none 0 0) []) := Lib.hid ⟨HS1.out, HL.out, hk1, Own.nil_ _ _ _ _, hp, by omega⟩
  clear hk1 kk1 HK5 HK9 HS HB HK1 HS1
  generalize hq : w.heap.size + 1 = q at *
  go_wp2_with fail
  refine (flip_any w1 p A n c l a 6 HC.out.str (by omega) (by omega)).mono ?_
  rintro e w2 ⟨b, a2, rfl, g2, g2', hs2, k2⟩
  have HC2 := Lib.hid (HC.out.moved hs2 k2)
  have HB2 := Lib.hid (HB1.out.tr (k2.mono (fun i hi (e : i = p) => (Or.inl e : i = p ∨ w.heap.size ≤ i))))
  clear hs2 k2 HC HB1
  go_upto_if 32 with (fail)
  go_cut [] (fun wc => ∃ (st a3 : Int) (v3 : Value) (xs : List Ins) (k : Nat), 0 ≤ st ∧ st ≤ 20 ∧ a ≤ a3 ∧ a3 ≤ a + 10 ∧ Cod wc w.heap.size p q A n c l a3 m.coder st v3 xs ∧ Seg m.coder 3 k xs ∧ k ≤ 2 ∧ xs.length ≤ 2 ∧ Keeps (fun i => i = p ∨ w.heap.size ≤ i) w wc)
  case first =>
    cases b with
    | true =>
      go_wp2_with fail
      go_meet
      case rel => exact ⟨0, a2, _, [], 0, by omega, by omega, by omega, by omega, HC2.out, Seg.nil 3, by omega, by simp, HB2.out⟩
    | false =>
      have d7 : w2.cell? ⟨q, 7, none⟩ = some (.int .i64 0) := HC2.out.blk.cell 7
      have f7 := HC2.out.blk.frozen 7
      have HS3 : Hid (Cod (w2.setCell ⟨q, 7, none⟩ (.int .i64 16)) w.heap.size p q A n c l a2 m.coder 16 (.slice none 0 0) []) := Lib.hid (by
        have hc := HC2.out
        have hK : Keeps (· = q) w2 (w2.setCell ⟨q, 7, none⟩ (.int .i64 16)) := Keeps.setCell (p := ⟨q, 7, none⟩) (Keeps.refl (· = q) w2) (fun _ => rfl) _
        exact ⟨hc.str.far hK (by omega) (fun ad hn e => by have := hc.low ad hn e; omega), hc.low, hc.blk.set_ 7 (.int .i64 16), Own.nil_ _ _ _ _, hc.pB, hc.Bq⟩)
      have HB3 := Lib.hid (Keeps.setCell (p := ⟨q, 7, none⟩) HB2.out (fun _ => Or.inr (by show w.heap.size ≤ q; omega)) (.int .i64 16))
      clear HC2 HB2
      go_wp2_with fail
      clear d7 f7
      generalize w2.setCell ⟨q, 7, none⟩ (.int .i64 16) = w3 at *
      refine (next_any w3 p A n c l a2 5 HS3.out.str (by omega) (by omega)).mono ?_
      rintro e w4 ⟨z, a4, rfl, ⟨z1, z2, -⟩, g4, g4', hs4, k4⟩
      have z2 := z2 (by omega)
      have HC4 := Lib.hid (HS3.out.moved hs4 k4)
      have HB4 := Lib.hid (HB3.out.tr (k4.mono (fun i hi (e : i = p) => (Or.inl e : i = p ∨ w.heap.size ≤ i))))
      clear hs4 k4 HS3 HB3
      go_wp2_with fail
      refine (add_any w4 HC4.out (by simp) ⟨18, 1, 0, 0, 0, 0, 0, z, 16⟩).mono ?_
      rintro e w5 ⟨rfl, v5, hc5, k5⟩
      have HC5 := Lib.hid hc5
      have HB5 := Lib.hid (HB4.out.tr (k5.mono (fun i hi (e : w.heap.size ≤ i) => (Or.inr e : i = p ∨ w.heap.size ≤ i))))
      clear hc5 k5 HC4 HB4
      go_wp2_with fail
      refine (add_any w5 HC5.out (by simp) ⟨19, 0, 0, 0, 0, 0, 0, 0, 0⟩).mono ?_
      rintro e w6 ⟨rfl, v6, hc6, k6⟩
      have HC6 := Lib.hid hc6
      have HB6 := Lib.hid (HB5.out.tr (k6.mono (fun i hi (e : w.heap.size ≤ i) => (Or.inr e : i = p ∨ w.heap.size ≤ i))))
      clear hc6 k6 HC5 HB5
      (try go_wp2_with fail)
      go_meet
      case rel =>
        have hm1 := HMQ.out
        exact ⟨16, a4, v6, _, 2, by omega, by omega, by omega, by omega, HC6.out, ((Seg.nil 3).one (plain_first hm1.1 ⟨z1, z2⟩).i).one (plain_wait (m := m.coder) (y := 0) ⟨by omega, by omega⟩).i, by omega, by simp, HB6.out⟩
  case rest =>
    obtain ⟨st, a3, v3, xs, k, s1, s2, g3, g3', hc, hseg, hk, hl, hb⟩ := hcut
    have HC3 := Lib.hid hc
    have HB3 := Lib.hid hb
    have HG := Lib.hid hseg
    clear hc hb hseg HC2 HB2
    go_wp2_with fail
    go_loopw [45] (fun i wr => ∃ (j : Nat) (a4 : Int) (v4 : Value) (ys : List Ins), i = .int .i64 j ∧ (j : Int) ≤ many ∧ a ≤ a4 ∧ a4 ≤ a + 10 + 4000 * (j : Int) ∧ Cod wr w.heap.size p q A n c l a4 m.coder st v4 ys ∧ Seg m.coder 3 (k + j) ys ∧ ys.length ≤ 2 + 250 * j ∧ Keeps (fun i => i = p ∨ w.heap.size ≤ i) w wr) (fun i _ => 21 - (intOf i).toNat)
    case atStart => exact ⟨0, a3, v3, xs, rfl, by omega, by omega, by omega, HC3.out, HG.out, by omega, HB3.out⟩
    obtain ⟨j, a4, v4, ys, rfl, hj, g4, g4', hc4, hs4, hl4, hb4⟩ := hrel
    have HC4 := Lib.hid hc4
    have HB4 := Lib.hid hb4
    have HG4 := Lib.hid hs4
    clear hc4 hb4 hs4 HC3 HB3 HG
    by_cases hlt : (j : Int) < many
    · go_wp2_with fail
      refine (one_any (m := m.coder) HMQ.out HML.out ⟨s1, s2⟩ 3 (by omega) _ a4 v4 ys HC4.out (by omega) (by omega)).mono ?_
      rintro e w5 ⟨zs, a5, v5, rfl, hz, zl, g5, g5', hc5, k5⟩
      have HC5 := Lib.hid hc5
      have HB5 := Lib.hid (HB4.out.tr k5)
      have HZ := Lib.hid hz
      clear hc5 k5 hz HC4 HB4
      go_wp2_with fail
      go_roundw
      case rel => exact ⟨j + 1, a5, v5, ys ++ zs, by go_num, by omega, by omega, by omega, HC5.out, HG4.out.item HZ.out, by rw [List.length_append]; omega, HB5.out⟩
      case measure => simp [intOf]; omega
    · obtain ⟨V, cv, rfl, -, -⟩ := HC4.out.own.shape
      have c6 : wr.cell? ⟨q, 6, none⟩ = some (.slice V ys.length cv) := HC4.out.blk.cell 6
      go_wp2_with fail
      go_ret
      exact ⟨_, ys, a4, k + j, rfl, HC4.out.own.more (fun g _ e => e.1), HG4.out, by omega, by omega, g4, by omega, HC4.out.str, HB4.out.mono (fun i hi e => by rcases e with e | e; exact e; omega)⟩
end Go.Proofs.YtpcejpcbkjnlkaaGreatDoor

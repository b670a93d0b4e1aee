/- TopKept: the walk of the law. -/
import Derived.Test.YtmlfgokbcafbkaaGreatDoorTk22
import Derived.Test.YtmlfgokbcafbkaaGreatDoorTk26
import Derived.Test.YtmlfgokbcafbkaaGreatDoorTk16
namespace Go.Proofs.YtmlfgokbcafbkaaGreatDoor
open Go.RowKit

theorem mcellsL {w : World} {g : Nat} {M : Model} {v4 v5 v6 v7 v8 v9 v10 : Value} (h : Blk w g 27 #[.int .i64 M.kind, .int .i64 M.vocab, .int .i64 M.width, .int .i64 M.top, v4, v5, v6, v7, v8, v9, v10]) :
    w.cell? ⟨g, 0, none⟩ = some (.int .i64 M.kind) ∧ w.cell? ⟨g, 1, none⟩ = some (.int .i64 M.vocab) ∧ w.cell? ⟨g, 2, none⟩ = some (.int .i64 M.width) ∧ w.cell? ⟨g, 3, none⟩ = some (.int .i64 M.top) ∧ w.cell? ⟨g, 4, none⟩ = some v4 ∧ w.cell? ⟨g, 5, none⟩ = some v5 ∧ w.cell? ⟨g, 6, none⟩ = some v6 ∧ w.cell? ⟨g, 7, none⟩ = some v7 ∧ w.cell? ⟨g, 8, none⟩ = some v8 ∧ w.cell? ⟨g, 9, none⟩ = some v9 ∧ w.cell? ⟨g, 10, none⟩ = some v10 := by
  have q := h.cell
  exact ⟨q 0, q 1, q 2, q 3, q 4, q 5, q 6, q 7, q 8, q 9, q 10⟩
theorem next_nat (W : World) (p : Nat) (A : Option Addr) (nn c : Nat) (l : List Int) (a : Int) (m : Nat) (h : Str W p A nn c l a) (ha : a ≤ 1000000) (hm : 1 ≤ m) (hm2 : m ≤ 1000000) :
    Calls Tryz.prog 13 #[.pointer (some ⟨p, 0, none⟩), .int .i64 m] W fun e w' => ∃ (j : Nat) (a' : Int), e = .returned (.int .i64 j) ∧ j < m ∧ a ≤ a' ∧ a' ≤ a + 1 ∧ Str w' p A nn c l a' ∧ Keeps (· = p) W w' := by
  refine (next_any W p A nn c l a m h (by omega) (by omega)).mono ?_
  rintro e w' ⟨v, a', rfl, ⟨h1, h2, -⟩, h3, h4, h5, h6⟩
  obtain ⟨j, rfl⟩ := Int.eq_ofNat_of_zero_le h1
  exact ⟨j, a', rfl, by have := h2 (by omega); omega, h3, h4, h5, h6⟩
/-- what holds behind the changed byte of the file -/
def Cut16 (w0 wc : World) (p : Nat) (A : Option Addr) (nn c : Nat) (l : List Int) (a : Int) (M : Model) (v4 v5 v6 v7 v8 v9 v10 : Value) (B1 B3 gx cx n : Nat) (vs : List Value) (ls : List (List Int)) (gf cf ln Bo : Nat) (cs : Array Value) : Prop :=
  ∃ (a' : Int) (xs : List Int), St w0 wc p A nn c l a' M v4 v5 v6 v7 v8 v9 v10 B1 ∧ a ≤ a' ∧ a' ≤ a + 2 ∧ Xs wc B1 B3 gx cx n vs ls ∧ Own wc (fun g => B3 ≤ g) 5 1 (.slice (some ⟨gf, 0, none⟩) ln cf) ln (bytes xs) ∧ xs.length = ln ∧ isBytes xs ∧ ¬ intactM xs ∧ Blk wc Bo 27 cs
theorem below_nat (x : Int) : ∃ q : Nat, belowF x 64 = (q : Int) ∧ q < 64 := by
  obtain ⟨h1, h2, -⟩ := belowF_range x 64
  obtain ⟨q, hq⟩ := Int.eq_ofNat_of_zero_le h1
  exact ⟨q, hq, by have := h2 (by omega); omega⟩
set_option maxRecDepth 100000 in
set_option maxHeartbeats 8000000 in
theorem topKept_walk (w : World) (A : Option Addr) (nn c : Nat) (l : List Int) (x y : Int) (hr : Reads w (fun _ => True) 1 A nn (ints l)) (hwf : ∀ x ∈ l, -9223372036854775808 ≤ x ∧ x ≤ 9223372036854775807) (hn : nn ≤ 9223372036854775807) :
    Calls Tryz.prog 3 #[.slice A nn c, .int .i64 x, .int .i64 y] w fun e w' => e = .returned (.bool true) ∧ Below w.heap.size w w' := by
  have hi27 : (Tryz.prog.info? 27).map (·.size) = some 11 := by kernel_rfl
  have hs0 : Str (w.alloc (.cells #[.slice A nn c, .int .i64 0] 25)) w.heap.size A nn c l 0 := by
    refine ⟨Blk.new _ _ _, ?_, hwf, hn, Int.le_refl 0⟩
    have := (hr.old.alloc (.cells #[.slice A nn c, .int .i64 0] 25))
    exact this.more fun b _ h => Nat.ne_of_lt h
  have HS0 := Lib.hid hs0
  have HR0 := Lib.hid (hr.old.alloc (.cells #[.slice A nn c, .int .i64 0] 25))
  have hbw0 : Below w.heap.size w (w.alloc (.cells #[.slice A nn c, .int .i64 0] 25)) := (Below.refl _ _).alloc (Nat.le_refl _) _
  have HBW0 := Lib.hid hbw0
  have hp0 : w.heap.size < (w.alloc (.cells #[.slice A nn c, .int .i64 0] 25)).heap.size := by simp
  obtain ⟨n1, hn1, hn2⟩ := below_nat x
  obtain ⟨k1, hk1, hk2⟩ := below_nat y
  obtain ⟨n, hnn⟩ : ∃ n, n = n1 + 1 := ⟨_, rfl⟩
  obtain ⟨k, hkk⟩ : ∃ k, k = k1 + 1 := ⟨_, rfl⟩
  have hsn : (1 : Int) + (n1 : Int) = (n : Int) := by omega
  have hsk : (1 : Int) + (k1 : Int) = (k : Int) := by omega
  have hnr : 1 ≤ n ∧ n ≤ 64 := by omega
  have hkr : 1 ≤ k ∧ k ≤ 64 := by omega
  have HBX : Hid (∀ W, Calls Tryz.prog 5 #[.int .i64 x, .int .i64 64] W fun e w' => e = .returned (.int .i64 n1) ∧ w' = W) := Lib.hid fun W => by
    have := below_any x 64 W (by omega)
    rw [hn1] at this
    exact this.mono fun e w' ⟨h1, h2⟩ => ⟨h1, h2.symm⟩
  have HBY : Hid (∀ W, Calls Tryz.prog 5 #[.int .i64 y, .int .i64 64] W fun e w' => e = .returned (.int .i64 k1) ∧ w' = W) := Lib.hid fun W => by
    have := below_any y 64 W (by omega)
    rw [hk1] at this
    exact this.mono fun e w' ⟨h1, h2⟩ => ⟨h1, h2.symm⟩
  have HNR := Lib.hid hnr
  have HKR := Lib.hid hkr
  have HONE := Lib.hid h10one_any
  have HMO := Lib.hid smodel_any
  have HSH := Lib.hid shards_any
  have HOR := Lib.hid order_any
  have HWR := Lib.hid write_any
  clear hr hwf hn hs0 hbw0 hn1 hk1 hnn hkk
  go_enter Tryz.func3, Tryz.ntmps3
  go_wp2_with fail
  generalize w.alloc (.cells #[.slice A nn c, .int .i64 0] 25) = w0 at *
  refine (HMO.out w0 w.heap.size A nn c l 0 HS0.out (by omega)).mono ?_
  rintro e w1 ⟨M, v4, v5, v6, v7, v8, v9, v10, a1, rfl, hM, hms, g1, g1', hs1, hk1⟩
  have HMOK := Lib.hid hM
  obtain ⟨A4, N4, c4, rfl⟩ := hms.cuts.lit
  obtain ⟨A5, N5, c5, rfl⟩ := hms.embed.lit
  obtain ⟨A6, N6, c6, rfl⟩ := hms.place.lit
  obtain ⟨A7, N7, c7, rfl⟩ := hms.mix.lit
  obtain ⟨A8, N8, c8, rfl⟩ := hms.out.lit
  obtain ⟨A9, N9, c9, rfl⟩ := hms.soft.lit
  obtain ⟨A10, N10, c10, rfl⟩ := hms.odds.lit
  have hz1 := hk1.size
  have ST0 : St w (w1.alloc (.cells #[.int .i64 M.kind, .int .i64 M.vocab, .int .i64 M.width, .int .i64 M.top, .slice A4 N4 c4, .slice A5 N5 c5, .slice A6 N6 c6, .slice A7 N7 c7, .slice A8 N8 c8, .slice A9 N9 c9, .slice A10 N10 c10] 27)) w.heap.size A nn c l a1 M (.slice A4 N4 c4) (.slice A5 N5 c5) (.slice A6 N6 c6) (.slice A7 N7 c7) (.slice A8 N8 c8) (.slice A9 N9 c9) (.slice A10 N10 c10) w1.heap.size :=
    ⟨((((Keeps.of_below HBW0.out (fun _ => False)).trans hk1 (fun i hi hS => by omega)).alloc _).to_below), Nat.le_refl _, by omega, hs1.alloc _, (HR0.out.keeps hk1 (fun i hi hS => by omega)).alloc _, Blk.new _ _ _, ((hms.more (fun b hb h => ⟨by omega, hb⟩))).alloc _⟩
  have ST := Lib.hid ST0
  have G1 := Lib.hid (And.intro g1 g1')
  clear hms hM hs1 hk1 g1 g1' HMO HS0 HR0 HBW0 ST0
  go_wp2_with fail
  generalize w1.alloc (.cells #[.int .i64 M.kind, .int .i64 M.vocab, .int .i64 M.width, .int .i64 M.top, .slice A4 N4 c4, .slice A5 N5 c5, .slice A6 N6 c6, .slice A7 N7 c7, .slice A8 N8 c8, .slice A9 N9 c9, .slice A10 N10 c10] 27) = w2 at *
  clear hz1
  generalize w1.heap.size = B1 at *
  refine (HBX.out _).mono ?_
  rintro e w3 ⟨rfl, rfl⟩
  go_wp2_with fail
  refine (HBY.out _).mono ?_
  rintro e w4 ⟨rfl, rfl⟩
  clear HBX HBY hp0
  go_wp2_with (refine wpList_load_blk rfl 27 _ rfl B1 rfl 27 _ _ ST.out.blk Tryz.underlying27 rfl hi27 ?_)
  refine (HSH.out _ _ M _ _ _ _ _ _ _ ST.out.ms HMOK.out n HNR.out.1 HNR.out.2).mono ?_
  rintro e w5 ⟨vx, vs, rfl, hox, hsx, hb5⟩
  have ST5 := Lib.hid (ST.out.below hb5)
  have hB1 := ST.out.lt
  obtain ⟨gx, cx, rfl, hcx1, hcx2, hgx, hgx2⟩ := hox.form (by have := HNR.out; omega)
  have XS : Hid (Xs w5 B1 w5.heap.size gx cx n vs (shardsF (modelBytes M) n)) := Lib.hid ⟨hox.more (fun g hg h => ⟨by omega, hg⟩), hsx.more (fun g hg h => ⟨⟨by omega, hg⟩, fun e => h.2 (by simp [Value.ownBlock, e])⟩)⟩
  have HCX := Lib.hid (And.intro hcx1 hcx2)
  have HB3 : Hid (B1 < w5.heap.size) := Lib.hid ST5.out.lt
  clear hox hsx hb5 hB1 hcx1 hcx2 hgx hgx2 ST HSH
  go_wp2_with (refine wpList_load_blk rfl 27 _ rfl B1 rfl 27 _ _ ST5.out.blk Tryz.underlying27 rfl hi27 ?_)
  refine (HWR.out _ _ M _ _ _ _ _ _ _ ST5.out.ms HMOK.out).mono ?_
  rintro e w6 ⟨vf, rfl, hof, hb6⟩
  have ST6 := Lib.hid (ST5.out.below hb6)
  have XS6 := Lib.hid (XS.out.below hb6)
  have hl1 := fileM_length M
  have hl2 := modelBytes_length M HMOK.out
  obtain ⟨ln, hln⟩ : ∃ ln, ln = (fileM M).length := ⟨_, rfl⟩
  rw [← hln] at hof
  obtain ⟨gf, cf, rfl, hcf1, hcf2, hgf, hgf2⟩ := hof.form (by omega)
  have HLN := Lib.hid hln
  have hln7 : 7 ≤ ln := by omega
  have HLN2 : Hid (ln ≤ 1000000) := Lib.hid (by omega)
  have FS6 := Lib.hid hof
  have HCF := Lib.hid (And.intro hcf1 hcf2)
  clear hof hb6 hl1 hl2 hln hcf1 hcf2 hgf hgf2 ST5 XS HWR
  generalize w5.heap.size = B3 at *
  have hn1 : 1 ≤ n := HNR.out.1
  go_wp2_with fail
  refine (HONE.out _).mono ?_
  rintro e w7 ⟨rfl, hb7⟩
  have ST7 := Lib.hid (ST6.out.below hb7)
  have XS7 := Lib.hid (XS6.out.below hb7)
  have FS7 := Lib.hid (FS6.out.fresh hb7)
  clear hb7 ST6 XS6 FS6 HONE
  go_wp2_with fail
  have HZ7 := Lib.hid (XS7.out.own.2 gx rfl)
  have hg1 := G1.out
  refine (HOR.out w7 w.heap.size A nn c l a1 ST7.out.str (by omega) n hn1 (by have := HNR.out.2; omega)).mono ?_
  rintro e w8 ⟨vo, js, a8, rfl, hjl, hjr, hoo, g8, g8', hs8, hk8⟩
  have hb37 : B3 ≤ w7.heap.size := by
    have h1 := FS7.out.lt (g := gf) rfl
    have h2 := FS7.out.2 gf rfl
    omega
  have hp1 := ST7.out.lo
  have ST8 := Lib.hid (ST7.out.next hk8 hs8)
  have XS8 := Lib.hid (XS7.out.keeps hk8 (fun i hi => by omega))
  have FS8 := Lib.hid (FS7.out.keeps hk8 (fun i hi e => by have := HB3.out; omega))
  obtain ⟨go, co, rfl, hco1, hco2, hgo, hgo2⟩ := hoo.form (by omega)
  have OS8 : Hid (Own w8 (fun g => B3 ≤ g) 3 1 (.slice (some ⟨go, 0, none⟩) n co) n (ints js)) := Lib.hid (hoo.more (fun g _ h => by omega))
  have HJL := Lib.hid hjl
  have HJR := Lib.hid hjr
  have HCO := Lib.hid hco1
  have G8 := Lib.hid (And.intro g8 g8')
  clear hjl hjr hoo hco1 hco2 hgo hgo2 hs8 hk8 hb37 hp1 g8 g8' ST7 XS7 FS7 HOR hg1
  have HPER : Hid (shardsF (modelBytes M) n = (List.range n).map (shardF (modelBytes M) n)) := by
    have e : shardsF (modelBytes M) n = (List.range n).map (shardF (modelBytes M) n) := rfl
    exact Lib.hid e
  go_wp2_with fail
  go_loopw [71] (fun iv wr => ∃ (i : Nat) (vs' : List Value) (pm : List Nat), i ≤ n ∧ iv = .int .i64 i ∧ Keeps (· = gx) w8 wr ∧ pm.Perm (List.range n) ∧ Xs wr B1 B3 gx cx n vs' (pm.map (shardF (modelBytes M) n))) (fun iv _ => n - (intOf iv).toNat)
  case atStart => exact ⟨0, vs, List.range n, Nat.zero_le _, rfl, Keeps.refl _ _, List.Perm.refl _, by have := XS8.out; rwa [HPER.out] at this⟩
  obtain ⟨i, vs', pm, hin, rfl, hkr, hpm, hxs⟩ := hrel
  by_cases hlt : i < n
  · have hos := OS8.out.keeps hkr (fun g hg e => by have := HZ7.out.2; omega)
    have hil : i < js.length := by rw [HJL.out]; exact hlt
    have co := hos.get i hlt
    rw [ints_get _ _ hil] at co
    obtain ⟨hj0, hj1⟩ := HJR.out _ (List.getElem_mem hil)
    generalize js[i] = jz at *
    obtain ⟨j, rfl⟩ := Int.eq_ofNat_of_zero_le hj0
    have hjn : j < n := by omega
    obtain ⟨Ai, ci, xi, hvi, -, -⟩ := hxs.lit i hlt
    obtain ⟨Aj, cj, xj, hvj, -, -⟩ := hxs.lit j hjn
    obtain ⟨pi, pj, hpi, hpj, hpm2⟩ := swap_perm pm n i j hpm hlt hjn
    have e1 := hxs.own.get i hlt
    have e2 := hxs.own.get j hjn
    rw [hvi] at e1
    rw [hvj] at e2
    have f1 := hxs.own.unfrozen i
    have f2 := hxs.own.unfrozen j
    have HXS := Lib.hid (hxs.swap i j hlt hjn _ _ hvi hvj pi pj hpi hpj)
    have HPM2 := Lib.hid hpm2
    have HK2 := Lib.hid (Keeps.setCell (p := ⟨gx, j, none⟩) (Keeps.setCell (p := ⟨gx, i, none⟩) hkr (fun _ => rfl) (.slice Aj xj.length cj)) (fun _ => rfl) (.slice Ai xi.length ci)).drew
    generalize xi.length = li at *
    generalize xj.length = lj at *
    have d1 : (0 : Int) ≤ (i : Int) := by omega
    have d2 : (i : Int) < (n : Int) := by omega
    have d3 : (0 : Int) ≤ (j : Int) := by omega
    have d4 : (j : Int) < (n : Int) := by omega
    obtain ⟨v', hv'⟩ := cell?_setCell_some (w := wr) (p := ⟨gx, i, none⟩) (x := .slice Aj lj cj) (q := ⟨gx, j, none⟩) (v := .slice Aj lj cj) e2
    clear hos hil hpm hpm2 hxs hkr hpi hpj hvi hvj hj0 hj1
    go_wp2_with fail
    go_region
    go_wp2_with fail
    go_roundw
    case rel => exact ⟨i + 1, _, _, by omega, by go_num, HK2.out, HPM2.out, HXS.out.drew⟩
    case measure => simp [intOf]; omega
  · obtain rfl : n = i := by omega
    have ST9 := Lib.hid (ST8.out.keeps hkr (fun g e => by have := HZ7.out.1; omega))
    have FS9 := Lib.hid (FS8.out.keeps hkr (fun g hg e => by have := HZ7.out.2; omega))
    have XS9 := Lib.hid hxs
    have HPM := Lib.hid hpm
    have hf := FS9.out.reads
    have HOG := Lib.hid (open_good wr _ _ cf ln M hf HCF.out.1 HCF.out.2 HMOK.out)
    clear hkr hxs hpm hlt hin ST8 FS8 XS8 OS8 HJL HJR HCO HPER hf
    go_wp2_with fail
    refine HOG.out.mono ?_
    rintro e w10 ⟨q4, q5, q6, q7, q8, q9, q10, rfl, hmo, hb10⟩
    obtain ⟨D4, L4, m4, rfl⟩ := hmo.cuts.lit
    obtain ⟨D5, L5, m5, rfl⟩ := hmo.embed.lit
    obtain ⟨D6, L6, m6, rfl⟩ := hmo.place.lit
    obtain ⟨D7, L7, m7, rfl⟩ := hmo.mix.lit
    obtain ⟨D8, L8, m8, rfl⟩ := hmo.out.lit
    obtain ⟨D9, L9, m9, rfl⟩ := hmo.soft.lit
    obtain ⟨D10, L10, m10, rfl⟩ := hmo.odds.lit
    have hb11 := hb10.alloc hb10.size (.cells #[.int .i64 M.kind, .int .i64 M.vocab, .int .i64 M.width, .int .i64 M.top, .slice D4 L4 m4, .slice D5 L5 m5, .slice D6 L6 m6, .slice D7 L7 m7, .slice D8 L8 m8, .slice D9 L9 m9, .slice D10 L10 m10] 27)
    have ST11 := Lib.hid (ST9.out.below hb11)
    have XS11 := Lib.hid (XS9.out.below hb11)
    have FS11 := Lib.hid (FS9.out.fresh hb11)
    have OB11 := Lib.hid (Blk.new w10 27 #[.int .i64 M.kind, .int .i64 M.vocab, .int .i64 M.width, .int .i64 M.top, .slice D4 L4 m4, .slice D5 L5 m5, .slice D6 L6 m6, .slice D7 L7 m7, .slice D8 L8 m8, .slice D9 L9 m9, .slice D10 L10 m10])
    have OM11 := Lib.hid (hmo.old.alloc (.cells #[.int .i64 M.kind, .int .i64 M.vocab, .int .i64 M.width, .int .i64 M.top, .slice D4 L4 m4, .slice D5 L5 m5, .slice D6 L6 m6, .slice D7 L7 m7, .slice D8 L8 m8, .slice D9 L9 m9, .slice D10 L10 m10] 27))
    have hbz : B3 ≤ w10.heap.size := by
      have h1 := FS9.out.lt (g := gf) rfl
      have h2 := FS9.out.2 gf rfl
      have h3 := hb10.size
      omega
    have HBZ := Lib.hid hbz
    clear hmo hb10 hb11 hbz ST9 XS9 FS9 HOG
    go_upto_region 14 with (fail)
    generalize w10.alloc (.cells #[.int .i64 M.kind, .int .i64 M.vocab, .int .i64 M.width, .int .i64 M.top, .slice D4 L4 m4, .slice D5 L5 m5, .slice D6 L6 m6, .slice D7 L7 m7, .slice D8 L8 m8, .slice D9 L9 m9, .slice D10 L10 m10] 27) = w11 at *
    generalize w10.heap.size = Bo at *
    obtain ⟨z0, z1, z2, z3, z4, z5, z6, z7, z8, z9, z10⟩ := mcellsL ST11.out.blk
    obtain ⟨y0, y1, y2, y3, y4, y5, y6, y7, y8, y9, y10⟩ := mcellsL OB11.out
    have HEQ := Lib.hid (equal_model w11 _ _ M _ _ _ _ _ _ _ _ _ _ _ _ _ _ ST11.out.ms OM11.out HMOK.out)
    go_wp2_with fail
    refine HEQ.out.mono ?_
    rintro e w12 ⟨rfl, hb12⟩
    have XS12 := Lib.hid (XS11.out.below hb12)
    have ST12 := Lib.hid (ST11.out.below hb12)
    have FS12 := Lib.hid (FS11.out.fresh hb12)
    have OB12 := Lib.hid (OB11.out.below hb12 OB11.out.lt)
    clear z0 z1 z2 z3 z4 z5 z6 z7 z8 z9 z10 y0 y1 y2 y3 y4 y5 y6 y7 y8 y9 y10 HEQ hb12 XS11 ST11 FS11 OB11 OM11
    obtain ⟨z0, z1, z2, z3, z4, z5, z6, z7, z8, z9, z10⟩ := mcellsL ST12.out.blk
    have HKE : Hid (Calls Tryz.prog 12 #[.agg #[.int .i64 M.kind, .int .i64 M.vocab, .int .i64 M.width, .int .i64 M.top, .slice A4 N4 c4, .slice A5 N5 c5, .slice A6 N6 c6, .slice A7 N7 c7, .slice A8 N8 c8, .slice A9 N9 c9, .slice A10 N10 c10], .slice (some ⟨gx, 0, none⟩) n cx, .int .i64 0] w12 fun e w' => e = .returned (.bool true) ∧ Below w12.heap.size w12 w') := by
      obtain ⟨q1, q2, q3, q4⟩ := perm_facts HPM.out
      exact Lib.hid (kept_zero w12 _ _ _ M _ _ _ _ _ _ _ ST12.out.ms HMOK.out ⟨gx, 0, none⟩ n cx vs' n pm XS12.out.own.reads XS12.out.shs hn1 (by have := HNR.out; omega) hn1 HNR.out.2 q1 q2 q3 q4)
    go_wp2_with fail
    refine HKE.out.mono ?_
    rintro e w13 ⟨rfl, hb13⟩
    have XS13 := Lib.hid (XS12.out.below hb13)
    have ST13 := Lib.hid (ST12.out.below hb13)
    have FS13 := Lib.hid (FS12.out.fresh hb13)
    have OB13 := Lib.hid (OB12.out.below hb13 OB12.out.lt)
    clear z0 z1 z2 z3 z4 z5 z6 z7 z8 z9 z10 HKE hb13 XS12 ST12 FS12 OB12
    go_wp2_with fail
    have hfb := fileM_bytes M
    have HNX1 : Hid (Calls Tryz.prog 13 #[.pointer (some ⟨w.heap.size, 0, none⟩), .int .i64 ln] w13.drew fun e w' => ∃ (j : Nat) (a' : Int), e = .returned (.int .i64 j) ∧ j < ln ∧ a8 ≤ a' ∧ a' ≤ a8 + 1 ∧ Str w' w.heap.size A nn c l a' ∧ Keeps (· = w.heap.size) w13.drew w') := by
      have := next_any w13.drew w.heap.size A nn c l a8 ln ST13.out.str.drew (by have := G1.out; have := G8.out; omega) (by have := HLN2.out; omega)
      refine Lib.hid (this.mono ?_)
      rintro e w' ⟨v, a', rfl, ⟨h1, h2, -⟩, h3, h4, h5, h6⟩
      obtain ⟨j, rfl⟩ := Int.eq_ofNat_of_zero_le h1
      exact ⟨j, a', rfl, by have := h2 (by omega); omega, h3, h4, h5, h6⟩
    have HNX2 : Hid (∀ (W : World) (a : Int), Str W w.heap.size A nn c l a → a ≤ 100000 → Calls Tryz.prog 13 #[.pointer (some ⟨w.heap.size, 0, none⟩), .int .i64 255] W fun e w' => ∃ (j : Nat) (a' : Int), e = .returned (.int .i64 j) ∧ j < 255 ∧ a ≤ a' ∧ a' ≤ a + 1 ∧ Str w' w.heap.size A nn c l a' ∧ Keeps (· = w.heap.size) W w') := by
      refine Lib.hid fun W a hs ha => ((next_any W w.heap.size A nn c l a 255 hs (by omega) (by omega)).mono ?_)
      rintro e w' ⟨v, a', rfl, ⟨h1, h2, -⟩, h3, h4, h5, h6⟩
      obtain ⟨j, rfl⟩ := Int.eq_ofNat_of_zero_le h1
      exact ⟨j, a', rfl, by have := h2 (by omega); omega, h3, h4, h5, h6⟩
    have HGF : Hid (¬ gf = w.heap.size) := Lib.hid (by have := FS13.out.2 gf rfl; have := HB3.out; have := ST13.out.lo; omega)
    have HGB : Hid (¬ gf = Bo) := Lib.hid (fun e => FS13.out.ne_blk OB13.out (by decide) (by rw [e]; rfl))
    clear hfb
    go_cut [] (fun wc => Cut16 w wc w.heap.size A nn c l a8 M (.slice A4 N4 c4) (.slice A5 N5 c5) (.slice A6 N6 c6) (.slice A7 N7 c7) (.slice A8 N8 c8) (.slice A9 N9 c9) (.slice A10 N10 c10) B1 B3 gx cx n vs' (pm.map (shardF (modelBytes M) n)) gf cf ln Bo #[.int .i64 M.kind, .int .i64 M.vocab, .int .i64 M.width, .int .i64 M.top, .slice D4 L4 m4, .slice D5 L5 m5, .slice D6 L6 m6, .slice D7 L7 m7, .slice D8 L8 m8, .slice D9 L9 m9, .slice D10 L10 m10])
    case rest =>
      obtain ⟨a16, xs, hst, ga, gb, hxs, hfs, hxl, hxb, hxi, hob⟩ := hcut
      have ST16 := Lib.hid hst
      have XS16 := Lib.hid hxs
      have FS16 := Lib.hid hfs
      have OB16 := Lib.hid hob
      have GA := Lib.hid (And.intro ga gb)
      have HXL := Lib.hid hxl
      have HXB := Lib.hid hxb
      have HXI := Lib.hid hxi
      clear hst hxs hfs hob ga gb hxl hxb hxi HNX1 ST13 XS13 FS13 OB13
      have HOB := Lib.hid (open_bad wc _ _ cf ln xs FS16.out.reads hln7 HLN2.out HCF.out.1 HXB.out HXI.out)
      go_wp2_with fail
      refine HOB.out.mono ?_
      rintro e w17 ⟨rfl, hb17⟩
      have hb18 := hb17.alloc hb17.size (.cells #[.int .i64 0, .int .i64 0, .int .i64 0, .int .i64 0, .slice none 0 0, .slice none 0 0, .slice none 0 0, .slice none 0 0, .slice none 0 0, .slice none 0 0, .slice none 0 0] 27)
      have ST18 := Lib.hid (ST16.out.below hb18)
      have XS18 := Lib.hid (XS16.out.below hb18)
      have OB18 := Lib.hid (OB16.out.below hb18 OB16.out.lt)
      clear hb17 hb18 ST16 XS16 OB16 FS16 HXL HXB HXI HOB
      go_upto_region 18 with (fail)
      generalize w17.alloc (.cells #[.int .i64 0, .int .i64 0, .int .i64 0, .int .i64 0, .slice none 0 0, .slice none 0 0, .slice none 0 0, .slice none 0 0, .slice none 0 0, .slice none 0 0, .slice none 0 0] 27) = w18 at *
      generalize w17.heap.size = Bz at *
      have HN20 := Lib.hid (next_nat w18 w.heap.size A nn c l a16 n ST18.out.str (by have := G1.out; have := G8.out; have := GA.out; have := HNR.out; omega) hn1 (by have := HNR.out; omega))
      go_wp2_with fail
      refine HN20.out.mono ?_
      rintro e w20 ⟨i, a20, rfl, hi, gc, gd, hs20, hk20⟩
      have ST20 := Lib.hid (ST18.out.next hk20 hs20)
      have XS20 := Lib.hid (XS18.out.keeps hk20 (fun i hi => by have := ST18.out.lo; omega))
      have OB20 := Lib.hid (hk20.blk OB18.out (by have := ST18.out.lo; have := HB3.out; have := HBZ.out; omega))
      have GC := Lib.hid (And.intro gc gd)
      clear hs20 hk20 gc gd ST18 XS18 OB18 HN20
      obtain ⟨j0, hj0, yz0, yz1, yz2⟩ := info_parts slices_info
      obtain ⟨Ai, ci, xi, hvi, hli, hsi⟩ := XS20.out.lit i hi
      obtain ⟨li, hlie⟩ : ∃ li, li = xi.length := ⟨_, rfl⟩
      rw [← hlie] at hvi
      have HVI := Lib.hid hvi
      have hnr64 : n ≤ 64 := HNR.out.2
      have HS : Hid (∀ W, Below w20.heap.size w20 W → W.cell? ⟨B1, 0, none⟩ = some (.int .i64 M.kind) ∧ W.cell? ⟨B1, 1, none⟩ = some (.int .i64 M.vocab) ∧ W.cell? ⟨B1, 2, none⟩ = some (.int .i64 M.width) ∧ W.cell? ⟨B1, 3, none⟩ = some (.int .i64 M.top) ∧
          W.cell? ⟨B1, 4, none⟩ = some (.slice A4 N4 c4) ∧ W.cell? ⟨B1, 5, none⟩ = some (.slice A5 N5 c5) ∧ W.cell? ⟨B1, 6, none⟩ = some (.slice A6 N6 c6) ∧ W.cell? ⟨B1, 7, none⟩ = some (.slice A7 N7 c7) ∧ W.cell? ⟨B1, 8, none⟩ = some (.slice A8 N8 c8) ∧ W.cell? ⟨B1, 9, none⟩ = some (.slice A9 N9 c9) ∧ W.cell? ⟨B1, 10, none⟩ = some (.slice A10 N10 c10) ∧
          W.cell? ⟨gx, i, none⟩ = some (.slice Ai li ci)) := by
        refine Lib.hid fun W hW => ?_
        obtain ⟨z0, z1, z2, z3, z4, z5, z6, z7, z8, z9, z10⟩ := mcellsL (ST20.out.below hW).blk
        exact ⟨z0, z1, z2, z3, z4, z5, z6, z7, z8, z9, z10, ((XS20.out.below hW).own.get i hi).trans HVI.out⟩
      have HX : Hid (∀ W, Below w20.heap.size w20 W → Xs W B1 B3 gx cx n vs' (pm.map (shardF (modelBytes M) n))) := Lib.hid fun W hW => XS20.out.below hW
      have HPM2 := Lib.hid (And.intro HPM.out HMOK.out)
      have b20 : Below w20.heap.size w20 w20.drew := (Below.refl _ _).drew
      have hwi : IntKind.i64.wrap ((i : Int) + 1) = (i : Int) + 1 := IntWalk.i64_in _ ⟨by omega, by omega⟩
      have hti : ((i : Int) + 1).toNat = i + 1 := by omega
      have d1 : (0 : Int) ≤ (i : Int) := by omega
      have d2 : (i : Int) < (n : Int) := by omega
      have d3 : (0 : Int) ≤ (i : Int) + 1 := by omega
      have d4 : (i : Int) + 1 ≤ (n : Int) := by omega
      have d5 : n ≤ cx := HCX.out.1
      have d6 : (n : Int) ≤ (cx : Int) := by omega
      have d7 : (i : Int) ≤ (cx : Int) := by omega
      have d8 : (i : Int) + 1 ≤ (cx : Int) := by omega
      have hone : ∀ u ∈ vs', u.oneCell' = true := XS20.out.shs.one
      obtain ⟨A1, hA1⟩ : ∃ A1 : Option Addr, (if cx = i + 1 then some ⟨gx, 0, none⟩ else some ⟨gx, i + 1, none⟩) = A1 := ⟨_, rfl⟩
      have HA1 : Hid (A1 = if cx = i + 1 then some ⟨gx, 0, none⟩ else some ⟨gx, i + 1, none⟩) := Lib.hid hA1.symm
      have HCON : Hid (Calls Tryz.prog 14 #[.slice (some ⟨w20.heap.size, 0, none⟩) 2 2] (w20.alloc (.cells #[.slice (some ⟨gx, 0, none⟩) i cx, .slice A1 (n - (i + 1)) (cx - (i + 1))] 30)).drew fun e w' => ∃ Ac cc, e = .returned (.slice Ac (n - 1) cc) ∧ Reads w' (fun _ => True) 1 Ac (n - 1) (vs'.eraseIdx i) ∧ Below w20.heap.size w20 w') := by
        have hbk := (Blk.new w20 30 #[.slice (some ⟨gx, 0, none⟩) i cx, .slice A1 (n - (i + 1)) (cx - (i + 1))]).drew
        have hbb : Below w20.heap.size w20 (w20.alloc (.cells #[.slice (some ⟨gx, 0, none⟩) i cx, .slice A1 (n - (i + 1)) (cx - (i + 1))] 30)).drew := ((Below.refl _ w20).alloc (Nat.le_refl _) _).drew
        refine Lib.hid ((concat_x (HX.out _ hbb) HCX.out hnr64 i hi w20.heap.size 2 _ HA1.out (hbk.cell 0) (hbk.cell 1)).mono ?_)
        rintro e w' ⟨Ac, cc, rfl, h1, h2⟩
        exact ⟨Ac, cc, rfl, h1.any, hbb.trans (h2.mono hbb.size)⟩
      have HK13 : Hid (∀ (W : World) (Ac : Option Addr) (cc : Nat) (T : Nat → Prop), Below w20.heap.size w20 W → Reads W T 1 Ac (n - 1) (vs'.eraseIdx i) → Calls Tryz.prog 12 #[.agg #[.int .i64 M.kind, .int .i64 M.vocab, .int .i64 M.width, .int .i64 M.top, .slice A4 N4 c4, .slice A5 N5 c5, .slice A6 N6 c6, .slice A7 N7 c7, .slice A8 N8 c8, .slice A9 N9 c9, .slice A10 N10 c10], .slice Ac (n - 1) cc, .int .i64 13] W fun e w' => e = .returned (.bool true) ∧ Below w20.heap.size w20 w') :=
        Lib.hid fun W Ac cc T hb hr => (kept_cat M _ _ _ _ _ _ _ HPM2.out.2 (HX.out W hb) HPM2.out.1 hn1 hnr64 i hi T Ac cc hr).mono fun e w' ⟨h1, h2⟩ => ⟨h1, hb.trans (h2.mono hb.size)⟩
      have HCL : Hid (∀ W, Below w20.heap.size w20 W → Calls Tryz.prog 15 #[.slice (some ⟨gx, 0, none⟩) n cx] W fun e w' => ∃ gz cz, e = .returned (.slice (some ⟨gz, 0, none⟩) n cz) ∧ Own w' (fun g => w20.heap.size ≤ g) 34 1 (.slice (some ⟨gz, 0, none⟩) n cz) n vs' ∧ Below w20.heap.size w20 w' ∧ Below W.heap.size W w') := by
        refine Lib.hid fun W hb => ((cloneBs_any W _ (some ⟨gx, 0, none⟩) n cx vs' (HX.out W hb).own.reads hone (by omega) (by intro h; cases h)).mono ?_)
        rintro e w' ⟨v, rfl, ho, h2⟩
        obtain ⟨gz, cz, rfl, -, -, -, -⟩ := ho.form (by omega)
        exact ⟨gz, cz, rfl, ho.more (fun g _ h => Nat.le_trans hb.size h), hb.trans (h2.mono hb.size), h2⟩
      have HK6 : Hid (∀ (W : World) (Ac : Option Addr) (cc : Nat) (T : Nat → Prop), Below w20.heap.size w20 W → Reads W T 1 Ac (n + 1) (vs' ++ [.slice Ai li ci]) → Calls Tryz.prog 12 #[.agg #[.int .i64 M.kind, .int .i64 M.vocab, .int .i64 M.width, .int .i64 M.top, .slice A4 N4 c4, .slice A5 N5 c5, .slice A6 N6 c6, .slice A7 N7 c7, .slice A8 N8 c8, .slice A9 N9 c9, .slice A10 N10 c10], .slice Ac (n + 1) cc, .int .i64 6] W fun e w' => e = .returned (.bool true) ∧ Below w20.heap.size w20 w') :=
        Lib.hid fun W Ac cc T hb hr => (kept_twice M _ _ _ _ _ _ _ HPM2.out.2 (HX.out W hb) HPM2.out.1 hn1 hnr64 i hi _ HVI.out T Ac cc hr).mono fun e w' ⟨h1, h2⟩ => ⟨h1, hb.trans (h2.mono hb.size)⟩
      have hnew1 : ∀ u ∈ [Value.slice Ai li ci], u.oneCell' = true := by
        intro u hu
        simp at hu
        rw [hu]
        rfl
      have HAP : Hid (∀ (W w' : World) (gz cz : Nat) (v' : Value), Below w20.heap.size w20 W → (∃ W0, Own W0 (fun g => w20.heap.size ≤ g) 34 1 (.slice (some ⟨gz, 0, none⟩) n cz) n vs') → Appended W w' (fun g => w20.heap.size ≤ g) 34 1 (.slice (some ⟨gz, 0, none⟩) n cz) v' (n + 1) (vs' ++ [.slice Ai li ci]) → Below w20.heap.size w20 w' ∧ ∃ A24 c24, v' = .slice A24 (n + 1) c24 ∧ Own w' (fun g => w20.heap.size ≤ g) 34 1 (.slice A24 (n + 1) c24) (n + 1) (vs' ++ [.slice Ai li ci])) := by
        refine Lib.hid fun W w' gz cz v' hb ⟨W0, ho⟩ happ => ?_
        obtain ⟨o1, o2⟩ := appBelow happ hb.size (fun g hg => ho.2 g hg)
        obtain ⟨A24, c24, rfl, -, -⟩ := o1.shape
        exact ⟨hb.trans o2, A24, c24, rfl, o1⟩
      clear hvi hli hsi hlie hone
      go_wp2_with fail
      go_cut [163] (fun v wc => v = .bool false ∧ Below w20.heap.size w20 wc)
      case first =>
        --DEV<
        as_aux_lemma =>
          go_region_held3 (fun W => W.cell? ⟨B1, 0, none⟩ = some (.int .i64 M.kind) ∧ W.cell? ⟨B1, 1, none⟩ = some (.int .i64 M.vocab) ∧ W.cell? ⟨B1, 2, none⟩ = some (.int .i64 M.width) ∧ W.cell? ⟨B1, 3, none⟩ = some (.int .i64 M.top) ∧
            W.cell? ⟨B1, 4, none⟩ = some (.slice A4 N4 c4) ∧ W.cell? ⟨B1, 5, none⟩ = some (.slice A5 N5 c5) ∧ W.cell? ⟨B1, 6, none⟩ = some (.slice A6 N6 c6) ∧ W.cell? ⟨B1, 7, none⟩ = some (.slice A7 N7 c7) ∧ W.cell? ⟨B1, 8, none⟩ = some (.slice A8 N8 c8) ∧ W.cell? ⟨B1, 9, none⟩ = some (.slice A9 N9 c9) ∧ W.cell? ⟨B1, 10, none⟩ = some (.slice A10 N10 c10) ∧
            W.cell? ⟨gx, i, none⟩ = some (.slice Ai li ci)) ((refine HS.out _ ?_; first | with_reducible assumption | exact below_alloc1 (by with_reducible assumption) _)) ((first
            | (go_at_call 14; refine HCON.out.mono ?_; rintro e w21 ⟨Ac, cc, rfl, hr21, b21⟩)
            | (go_at_call 12; with_reducible show Calls _ _ #[_, _, Value.int IntKind.i64 13] _ _; refine (HK13.out _ _ _ _ b21 hr21).mono ?_; rintro e w22 ⟨rfl, b22⟩)
            | (go_at_call 15; refine (HCL.out _ (by first | with_reducible assumption | exact below_alloc1 (by with_reducible assumption) _)).mono ?_; rintro e w23 ⟨gz, cz, rfl, ho23, b23, bb23⟩)
            | (go_at_call 12; with_reducible show Calls _ _ #[_, _, Value.int IntKind.i64 6] _ _; refine (HK6.out _ _ _ _ b24 ho24.reads).mono ?_; rintro e w25 ⟨rfl, b25⟩)
            | (with_reducible show (if Region.wanted (Oper.mk (some 160) _ _ _ _ _) _ = true then _ else _); refine step_append_g (by first | rfl | exact rfl | (simp [Region.wanted, yielded]; done)) _ _ 30 (by rfl) 34 j0 _ 1 24 Tryz.underlying30 hj0 yz0 yz1 yz2 rfl (by omega) (.slice (some ⟨gz, 0, none⟩) n cz) n vs' (by first | rfl | exact rfl | (simp [Act.eval]; done)) (by first | exact ho23 | exact ho23.alloc _) _ 1 1 [.slice Ai li ci] (by first | rfl | exact rfl | (simp [Act.eval]; rfl)) (by first | exact lit_reads _ _ [_] 1 rfl | exact (lit_reads _ _ [_] 1 rfl).fresh bb23) hnew1 (by unfold maxLen; omega) (by omega) ?_; intro v' w24 happ; obtain ⟨b24, A24, c24, rfl, ho24⟩ := HAP.out _ _ _ _ _ (by first | with_reducible assumption | exact below_alloc1 (by with_reducible assumption) _) ⟨_, ho23⟩ happ)))
          all_goals
            go_wp2_with fail
            go_meet
            exact ⟨rfl, b25⟩
        --DEV>
      case rest =>
        obtain ⟨rfl, hb21⟩ := hcut
        have ST21 := Lib.hid (ST20.out.below hb21)
        have XS21 := Lib.hid (XS20.out.below hb21)
        have OB21 := Lib.hid (OB20.out.below hb21 OB20.out.lt)
        have HGA : Hid (Calls Tryz.prog 16 #[.slice (some ⟨gx, 0, none⟩) n cx] wc fun e w' => Below wc.heap.size wc w' ∧ GatherOk wc w' M e) := by
          obtain ⟨q1, q2, q3, q4⟩ := perm_facts HPM.out
          have hT := XS21.out.shs.more (T' := fun g => g < wc.heap.size) (fun g hg _ => hg)
          refine Lib.hid ((gather_any wc _ _ ⟨gx, 0, none⟩ n cx vs' _ M n pm 0 XS21.out.own.reads hT (fun g hg => hg) hn1 (by omega) HMOK.out hn1 hnr64 (by omega) (by rw [List.take_of_length_le (by simp)]) q2 q3 (Or.inl ⟨rfl, q1⟩)).mono ?_)
          rintro e w' ⟨h1, h2, -, -⟩
          exact ⟨h1, h2 rfl q4⟩
        clear hb21 HCON HK13 HCL HK6 HAP HS HX hnew1 hA1 HA1 b20 hwi hti d1 d2 d3 d4 d6 d7 d8 ST20 XS20 OB20
        go_wp2_with fail
        refine HGA.out.mono ?_
        rintro e w22 ⟨hb22, q4, q5, q6, q7, q8, q9, q10, rfl, hmo⟩
        obtain ⟨E4, P4, r4, rfl⟩ := hmo.cuts.lit
        obtain ⟨E5, P5, r5, rfl⟩ := hmo.embed.lit
        obtain ⟨E6, P6, r6, rfl⟩ := hmo.place.lit
        obtain ⟨E7, P7, r7, rfl⟩ := hmo.mix.lit
        obtain ⟨E8, P8, r8, rfl⟩ := hmo.out.lit
        obtain ⟨E9, P9, r9, rfl⟩ := hmo.soft.lit
        obtain ⟨E10, P10, r10, rfl⟩ := hmo.odds.lit
        have ST22 := Lib.hid (ST21.out.below hb22)
        have XS22 := Lib.hid (XS21.out.below hb22)
        have OB22 := Lib.hid (OB21.out.below hb22 OB21.out.lt)
        have HON := Lib.hid hmo.ones
        have hbo := OB21.out.lt
        have OM22 := Lib.hid (hmo.more (T' := fun g => Bo < g) (fun g _ h => by omega))
        clear hmo hb22 hbo HGA ST21 XS21 OB21
        go_upto_region 24 with (refine wpList_store_blk rfl 27 _ _ rfl Bo _ rfl rfl 27 _ OB22.out hi27 rfl HON.out ?_; intro w23 qb qk)
        have ST23 := Lib.hid (ST22.out.keeps qk (fun g e => by have := HB3.out; have := HBZ.out; omega))
        have XS23 := Lib.hid (XS22.out.keeps qk (fun i e => by have := HBZ.out; omega))
        have OM23 := Lib.hid (OM22.out.keeps qk (fun g hg e => by omega))
        have OB23 := Lib.hid qb
        have HSH2 := Lib.hid (shards_any w23 _ M _ _ _ _ _ _ _ OM23.out HMOK.out k HKR.out.1 HKR.out.2)
        clear qb qk ST22 XS22 OB22 OM22 HON
        go_wp2_with (refine wpList_load_blk rfl 27 _ rfl Bo rfl 27 _ _ OB23.out Tryz.underlying27 rfl hi27 ?_)
        refine HSH2.out.mono ?_
        rintro e w24 ⟨vy, ys, rfl, hoy, hsy, hb24⟩
        have ST24 := Lib.hid (ST23.out.below hb24)
        have XS24 := Lib.hid (XS23.out.below hb24)
        obtain ⟨gy, cy, rfl, -, -, -, -⟩ := hoy.form (by have := HKR.out; omega)
        have HKY : Hid (Calls Tryz.prog 12 #[.agg #[.int .i64 M.kind, .int .i64 M.vocab, .int .i64 M.width, .int .i64 M.top, .slice A4 N4 c4, .slice A5 N5 c5, .slice A6 N6 c6, .slice A7 N7 c7, .slice A8 N8 c8, .slice A9 N9 c9, .slice A10 N10 c10], .slice (some ⟨gy, 0, none⟩) k cy, .int .i64 0] w24 fun e w' => e = .returned (.bool true) ∧ Below w24.heap.size w24 w') := by
          obtain ⟨q1, q2, q3, q4⟩ := perm_facts (List.Perm.refl (List.range k))
          exact Lib.hid (kept_zero w24 _ _ _ M _ _ _ _ _ _ _ ST24.out.ms HMOK.out ⟨gy, 0, none⟩ k cy ys k (List.range k) hoy.reads hsy HKR.out.1 (by have := HKR.out; omega) HKR.out.1 HKR.out.2 q1 q2 q3 q4)
        have OB24 := Lib.hid (OB23.out.below hb24 OB23.out.lt)
        clear hoy hsy hb24 ST23 XS23 OM23 OB23 HSH2
        obtain ⟨z0, z1, z2, z3, z4, z5, z6, z7, z8, z9, z10⟩ := mcellsL ST24.out.blk
        go_wp2_with fail
        refine HKY.out.mono ?_
        rintro e w25 ⟨rfl, hb25⟩
        have ST25 := Lib.hid (ST24.out.below hb25)
        have XS25 := Lib.hid (XS24.out.below hb25)
        have OB25 := Lib.hid (OB24.out.below hb25 OB24.out.lt)
        clear z0 z1 z2 z3 z4 z5 z6 z7 z8 z9 z10 hb25 ST24 XS24 OB24 HKY
        go_upto_region 27 with (fail)
        have hnr64 : n ≤ 64 := HNR.out.2
        obtain ⟨q, hq1, hq2, hq3, hq4⟩ := XS25.out.shard i hi HVI.out
        have hqn : q < n := (perm_facts HPM.out).2.2.1 q hq2
        have hl1 := shardF_length (modelBytes M) n q
        have hl2 := partF_le (modelBytes M) n q
        have hl3 := modelBytes_length M HMOK.out
        have hli12 : 12 ≤ li := by omega
        have HLI9 : Hid (li ≤ 900000) := Lib.hid (by omega)
        have HSL := Lib.hid hq3
        have HQN := Lib.hid hqn
        have e1 := (XS25.out.own.get i hi).trans HVI.out
        have HCB : Hid (Calls Tryz.prog 17 #[.slice Ai li ci] w25 fun e w' => ∃ gb cb, e = .returned (.slice (some ⟨gb, 0, none⟩) li cb) ∧ Own w' (fun g => w25.heap.size ≤ g) 5 1 (.slice (some ⟨gb, 0, none⟩) li cb) li (bytes (shardF (modelBytes M) n q)) ∧ Below w25.heap.size w25 w') := by
          refine Lib.hid ((cloneB_any w25 _ Ai li ci _ hq4 (bytes_one _) (by have := HLI9.out; omega) (fun h => by obtain ⟨ad, h2, -⟩ := hq4.2 (by omega); rw [h] at h2; cases h2)).mono ?_)
          rintro e w' ⟨v, rfl, ho, hb⟩
          obtain ⟨gb, cb, rfl, -, -, -, -⟩ := ho.form (by omega)
          exact ⟨gb, cb, rfl, ho, hb⟩
        clear hq1 hq2 hq3 hq4 hqn hl1 hl2 hl3
        have d1 : (0 : Int) ≤ (i : Int) := by omega
        have d2 : (i : Int) < (n : Int) := by omega
        go_wp2_with fail
        refine HCB.out.mono ?_
        rintro e w27 ⟨gb, cb, rfl, ho27, hb27⟩
        have ST27 := Lib.hid (ST25.out.below hb27)
        have XS27 := Lib.hid (XS25.out.below hb27)
        have hb325 : B3 ≤ w25.heap.size := by
          have h1 := OB25.out.lt
          have h2 := HBZ.out
          omega
        have BS27 : Hid (Own w27 (fun g => B3 ≤ g) 5 1 (.slice (some ⟨gb, 0, none⟩) li cb) li (bytes (shardF (modelBytes M) n q))) := Lib.hid (ho27.more (fun g _ h => Nat.le_trans hb325 h))
        clear ho27 hb27 e1 HCB ST25 XS25 OB25 hb325
        go_wp2_with fail
        have HNX3 : Hid (Calls Tryz.prog 13 #[.pointer (some ⟨w.heap.size, 0, none⟩), .int .i64 li] w27.drew fun e w' => ∃ (j : Nat) (a' : Int), e = .returned (.int .i64 j) ∧ j < li ∧ a20 ≤ a' ∧ a' ≤ a20 + 1 ∧ Str w' w.heap.size A nn c l a' ∧ Keeps (· = w.heap.size) w27.drew w') := by
          exact Lib.hid (next_nat w27.drew w.heap.size A nn c l a20 li ST27.out.str.drew (by have := G1.out; have := G8.out; have := GA.out; have := GC.out; omega) (by omega) (by have := HLI9.out; omega))
        have HGB2 : Hid (¬ gb = w.heap.size) := Lib.hid (by have := BS27.out.2 gb rfl; have := HB3.out; have := ST27.out.lo; omega)
        go_cut [] (fun wc => Cut16 w wc w.heap.size A nn c l a20 M (.slice A4 N4 c4) (.slice A5 N5 c5) (.slice A6 N6 c6) (.slice A7 N7 c7) (.slice A8 N8 c8) (.slice A9 N9 c9) (.slice A10 N10 c10) B1 B3 gx cx n vs' (pm.map (shardF (modelBytes M) n)) gb cb li B1 #[.int .i64 M.kind, .int .i64 M.vocab, .int .i64 M.width, .int .i64 M.top, .slice A4 N4 c4, .slice A5 N5 c5, .slice A6 N6 c6, .slice A7 N7 c7, .slice A8 N8 c8, .slice A9 N9 c9, .slice A10 N10 c10])
        case rest =>
          obtain ⟨a28, xs, hst, -, -, hxs, hfs, hxl, hxb, hxi, -⟩ := hcut
          have ST28 := Lib.hid hst
          have XS28 := Lib.hid hxs
          have BS28 := Lib.hid hfs
          have HXL := Lib.hid hxl
          have HXB := Lib.hid hxb
          have HXI := Lib.hid hxi
          clear hst hxs hfs hxl hxb hxi HNX3 ST27 XS27 BS27
          have HCX28 : Hid (Calls Tryz.prog 15 #[.slice (some ⟨gx, 0, none⟩) n cx] wc fun e w' => ∃ gz cz, e = .returned (.slice (some ⟨gz, 0, none⟩) n cz) ∧ Own w' (fun g => wc.heap.size ≤ g) 34 1 (.slice (some ⟨gz, 0, none⟩) n cz) n vs' ∧ Below wc.heap.size wc w') := by
            refine Lib.hid ((cloneBs_any wc _ (some ⟨gx, 0, none⟩) n cx vs' XS28.out.own.reads XS28.out.shs.one (by omega) (by intro h; cases h)).mono ?_)
            rintro e w' ⟨v, rfl, ho, h2⟩
            obtain ⟨gz, cz, rfl, -, -, -, -⟩ := ho.form (by omega)
            exact ⟨gz, cz, rfl, ho, h2⟩
          go_wp2_with fail
          refine HCX28.out.mono ?_
          rintro e w29 ⟨gz, cz, rfl, ho29, hb29⟩
          have hl28 := ST28.out.lt
          have hx28 : B3 ≤ wc.heap.size := by
            have h1 := BS28.out.lt (g := gb) rfl
            have h2 := BS28.out.2 gb rfl
            omega
          have hgz := ho29.2 gz rfl
          have e3 := (ho29.get i hi).trans HVI.out
          have f3 := ho29.unfrozen i
          have hst29 := ST28.out.below hb29
          have hshs : Shs w29 (fun g => g < wc.heap.size) vs' (pm.map (shardF (modelBytes M) n)) := (XS28.out.shs.more (T' := fun g => g < wc.heap.size) (fun g hg _ => hg)).fresh hb29
          have hsb : Slb w29 (fun g => g < wc.heap.size) (.slice (some ⟨gb, 0, none⟩) li cb) xs := ((Slb.of_own BS28.out).more (T' := fun g => g < wc.heap.size) (fun g hg _ => hg)).fresh hb29
          have HOZ := Lib.hid (ho29.set i hi (.slice (some ⟨gb, 0, none⟩) li cb))
          have HSZ := Lib.hid (((shs_put hshs i _ xs hsb).setCell (p := ⟨gz, i, none⟩) (by show ¬ gz < wc.heap.size; omega) (.slice (some ⟨gb, 0, none⟩) li cb)))
          have HST := Lib.hid (hst29.keeps (Keeps.setCell (p := ⟨gz, i, none⟩) (Keeps.refl (· = gz) w29) (fun _ => rfl) (.slice (some ⟨gb, 0, none⟩) li cb)) (fun g e => by omega))
          clear hgz hst29 hshs hsb hl28 hx28 hb29 ho29 HCX28 ST28 XS28 BS28
          go_upto_region 31 with (fail)
          generalize w29.setCell ⟨gz, i, none⟩ (.slice (some ⟨gb, 0, none⟩) li cb) = w30 at *
          clear e3 f3
          have HKB := Lib.hid (kept_broken M (.slice A4 N4 c4) (.slice A5 N5 c5) (.slice A6 N6 c6) (.slice A7 N7 c7) (.slice A8 N8 c8) (.slice A9 N9 c9) (.slice A10 N10 c10) HMOK.out HPM.out hn1 hnr64 i hi xs _ _ ⟨gz, 0, none⟩ cz _ HOZ.out.reads HSZ.out (by have := HXL.out; omega) (by have := HXL.out; have := HLI9.out; omega) HXB.out HXI.out)
          obtain ⟨z0, z1, z2, z3, z4, z5, z6, z7, z8, z9, z10⟩ := mcellsL HST.out.blk
          go_wp2_with fail
          refine HKB.out.mono ?_
          rintro e w31 ⟨rfl, hb31⟩
          go_wp2_with fail
          go_ret
          exact ⟨rfl, (HST.out.below hb31).bel⟩
        --DEV<
        as_aux_lemma =>
          go_region_with ((first
            | (go_at_call 13; with_reducible show Calls _ _ #[_, Value.int IntKind.i64 (li : Int)] _ _; refine HNX3.out.mono ?_; rintro e w28 ⟨j, a28, rfl, hj, ga, gb2, hs28, hk28⟩
               have BS28 := BS27.out.drew.keeps hk28 (fun g hg e => HGB2.out (by have := HB3.out; have := ST27.out.lo; omega))
               have c28 := BS28.get j hj
               rw [bytes_get _ _ (by rw [← HSL.out]; exact hj)] at c28
               have d3 : (0 : Int) ≤ (j : Int) := by omega
               have d4 : (j : Int) < (li : Int) := by omega)
            | (go_at_call 13; with_reducible show Calls _ _ #[_, Value.int IntKind.i64 255] _ _; refine (HNX2.out _ _ hs28 (by have := G1.out; have := G8.out; have := GA.out; have := GC.out; have := HNR.out; omega)).mono ?_; rintro e w29 ⟨q2, a29, rfl, hq2, gc, gd, hs29, hk29⟩
               have BS29 := BS28.keeps hk29 (fun g hg e => HGB2.out (by have := HB3.out; have := ST27.out.lo; omega))
               have c29 := BS29.get j hj
               rw [bytes_get _ _ (by rw [← HSL.out]; exact hj)] at c29
               have f29 := BS29.unfrozen j
               have d5 : IntKind.i64.wrap (1 + (q2 : Int)) = 1 + (q2 : Int) := IntWalk.i64_in _ ⟨by omega, by omega⟩
               have d6 : IntKind.u8.wrap (1 + (q2 : Int)) = 1 + (q2 : Int) := IntWalk.u8_in _ ⟨by omega, by omega⟩)))
          all_goals
            go_wp2_with fail
            go_meet
            have hk16a : Keeps (fun g => g = w.heap.size ∨ g = gb) w27 w29 := (((Keeps.refl (· = w.heap.size) w27).drew.tr hk28).tr hk29).mono (fun _ _ h => Or.inl h)
            have hk16 : Keeps (fun g => g = w.heap.size ∨ g = gb) w27 (w29.setCell ⟨gb, j, none⟩ (.int .u8 (bits .xor .u8 (shardF (modelBytes M) n q)[j] (1 + (q2 : Int))))) := hk16a.setCell (p := ⟨gb, j, none⟩) (fun _ => Or.inr rfl) _
            have hB := HB3.out
            have hlo := ST27.out.lo
            have hgb := BS27.out.2 gb rfl
            obtain ⟨h1, h2⟩ := shard_broken (modelBytes M) (modelBytes_bytes M) n q (by have := HQN.out; omega) (by omega) j (by rw [← HSL.out]; exact hj) q2 (by omega)
            have hst29 := (((ST27.out.drew.next hk28 hs28).next hk29 hs29).keeps (Keeps.setCell (p := ⟨gb, j, none⟩) (Keeps.refl (· = gb) w29) (fun _ => rfl) (.int .u8 (bits .xor .u8 (shardF (modelBytes M) n q)[j] (1 + (q2 : Int))))) (fun g e => by omega))
            refine ⟨a29, _, hst29, by omega, by omega, XS27.out.keeps hk16 (fun i hi => by rcases hi with rfl | rfl <;> omega), ?_, ?_, h1, h2, hst29.blk⟩
            · have := BS29.set j hj (.int .u8 (bits .xor .u8 (shardF (modelBytes M) n q)[j] (1 + (q2 : Int))))
              rwa [bytes_set] at this
            · rw [List.length_set, ← HSL.out]
        --DEV>
    --DEV<
    as_aux_lemma =>
      go_region_with ((first
        | (go_at_call 13; with_reducible show Calls _ _ #[_, Value.int IntKind.i64 (ln : Int)] _ _; refine HNX1.out.mono ?_; rintro e w14 ⟨j, a14, rfl, hj, ga, gb, hs14, hk14⟩
           have FS14 := FS13.out.drew.keeps hk14 (fun g hg e => HGF.out (by have := HB3.out; have := ST13.out.lo; omega))
           have c14 := FS14.get j hj
           rw [bytes_get _ _ (by rw [← HLN.out]; exact hj)] at c14
           have d1 : (0 : Int) ≤ (j : Int) := by omega
           have d2 : (j : Int) < (ln : Int) := by omega)
        | (go_at_call 13; with_reducible show Calls _ _ #[_, Value.int IntKind.i64 255] _ _; refine (HNX2.out _ _ hs14 (by have := G1.out; have := G8.out; have := HNR.out; omega)).mono ?_; rintro e w15 ⟨q, a15, rfl, hq, gc, gd, hs15, hk15⟩
           have FS15 := FS14.keeps hk15 (fun g hg e => HGF.out (by have := HB3.out; have := ST13.out.lo; omega))
           have c15 := FS15.get j hj
           rw [bytes_get _ _ (by rw [← HLN.out]; exact hj)] at c15
           have f15 := FS15.unfrozen j
           have d3 : IntKind.i64.wrap (1 + (q : Int)) = 1 + (q : Int) := IntWalk.i64_in _ ⟨by omega, by omega⟩
           have d4 : IntKind.u8.wrap (1 + (q : Int)) = 1 + (q : Int) := IntWalk.u8_in _ ⟨by omega, by omega⟩)))
      all_goals
        go_wp2_with fail
        go_meet
        have hk16a : Keeps (fun g => g = w.heap.size ∨ g = gf) w13 w15 := (((Keeps.refl (· = w.heap.size) w13).drew.tr hk14).tr hk15).mono (fun _ _ h => Or.inl h)
        have hk16 : Keeps (fun g => g = w.heap.size ∨ g = gf) w13 (w15.setCell ⟨gf, j, none⟩ (.int .u8 (bits .xor .u8 (fileM M)[j] (1 + (q : Int))))) := hk16a.setCell (p := ⟨gf, j, none⟩) (fun _ => Or.inr rfl) _
        have hB := HB3.out
        have hlo := ST13.out.lo
        have hgf := FS13.out.2 gf rfl
        obtain ⟨h1, h2⟩ := file_broken M j (by rw [← HLN.out]; exact hj) q (by omega)
        refine ⟨a15, _, (((ST13.out.drew.next hk14 hs14).next hk15 hs15).keeps (Keeps.setCell (p := ⟨gf, j, none⟩) (Keeps.refl (· = gf) w15) (fun _ => rfl) _) (fun g e => by omega)), by omega, by omega, XS13.out.keeps hk16 (fun i hi => by rcases hi with rfl | rfl <;> omega), ?_, ?_, h1, h2, hk16.blk OB13.out (fun h => by rcases h with h | h; have := HBZ.out; omega; exact HGB.out h.symm)⟩
        · have := FS15.set j hj (.int .u8 (bits .xor .u8 (fileM M)[j] (1 + (q : Int))))
          rwa [bytes_set] at this
        · rw [List.length_set, ← HLN.out]
    --DEV>
end Go.Proofs.YtmlfgokbcafbkaaGreatDoor

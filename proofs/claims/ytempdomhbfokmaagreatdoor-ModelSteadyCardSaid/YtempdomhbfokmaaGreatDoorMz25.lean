/- ModelSteady: the walk of the law. -/
import Derived.Test.YtempdomhbfokmaaGreatDoorMz15
import Derived.Test.YtempdomhbfokmaaGreatDoorMz20
import Derived.Test.YtempdomhbfokmaaGreatDoorMz21
import Derived.Test.YtempdomhbfokmaaGreatDoorMz22
import Derived.Test.YtempdomhbfokmaaGreatDoorMz23
import Derived.Test.YtempdomhbfokmaaGreatDoorMz24
namespace Go.Proofs.YtempdomhbfokmaaGreatDoor
open Go.RowKit

theorem below_keeps {a b c : World} {B : Nat} {S : Nat → Prop} (h : Below B a b) (k : Keeps S b c) (hS : ∀ i, S i → B ≤ i) (hB : B ≤ b.heap.size) : Below B a c :=
  ⟨k.os.trans h.os, k.tape.trans h.tape, k.output.trans h.output, Nat.le_trans h.size k.size, fun i hi => (k.block i (by omega) (fun e => by have := hS i e; omega)).trans (h.block i hi)⟩
set_option maxRecDepth 100000 in
set_option maxHeartbeats 8000000 in
theorem steady_walk (w : World) (A : Option Addr) (nn c : Nat) (l : List Int) (hr : Reads w (fun _ => True) 1 A nn (ints l)) (hwf : ∀ x ∈ l, -9223372036854775808 ≤ x ∧ x ≤ 9223372036854775807) (hn : nn ≤ 9223372036854775807)
    (hst : ∀ W, Below w.heap.size w W → Calls Tryz.prog 9 #[] W fun e w' => e = .returned (.bool true) ∧ Below W.heap.size W w') :
    Calls Tryz.prog 4 #[.slice A nn c] w fun e w' => e = .returned (.bool true) ∧ Below w.heap.size w w' := by
  have HST := Lib.hid hst
  have HRA := Lib.hid hr
  have hs0 : Str (w.alloc (.cells #[.slice A nn c, .int .i64 0] 25)) w.heap.size A nn c l 0 := by
    refine ⟨Blk.new _ _ _, ?_, hwf, hn, Int.le_refl 0⟩
    have := (hr.old.alloc (.cells #[.slice A nn c, .int .i64 0] 25))
    exact this.more fun b _ h => Nat.ne_of_lt h
  have HS0 := Lib.hid hs0
  have HB0 := Lib.hid ((Below.refl w.heap.size w).alloc (Nat.le_refl _) (.cells #[.slice A nn c, .int .i64 0] 25))
  clear hs0 hst hr hwf
  go_enter Tryz.func4, Tryz.ntmps4
  go_wp2_with fail
  refine (smodel_any _ w.heap.size A nn c l 0 HS0.out (by omega)).mono ?_
  rintro e w1 ⟨M, v4, v5, v6, v7, v8, v9, v10, a1, rfl, hM, hms1, g1, g1', hs1, hk1⟩
  obtain ⟨A4, c4, rfl⟩ := hms1.cuts.len
  obtain ⟨A5, c5, rfl⟩ := hms1.embed.len
  obtain ⟨A6, c6, rfl⟩ := hms1.place.len
  obtain ⟨A7, c7, rfl⟩ := hms1.mix.len
  obtain ⟨A8, c8, rfl⟩ := hms1.out.len
  obtain ⟨A9, c9, rfl⟩ := hms1.soft.len
  obtain ⟨A10, c10, rfl⟩ := hms1.odds.len
  have zp : w.heap.size < w1.heap.size := by have := hk1.size; simp at this; omega
  have HMS1 := Lib.hid hms1
  have HS1 := Lib.hid (hs1.alloc (.cells #[.int .i64 M.kind, .int .i64 M.vocab, .int .i64 M.width, .int .i64 M.top, .slice A4 M.cuts.length c4, .slice A5 M.embed.length c5, .slice A6 M.place.length c6, .slice A7 M.mix.length c7, .slice A8 M.out.length c8, .slice A9 M.soft.length c9, .slice A10 M.odds.length c10] 35))
  have HK1 := Lib.hid hk1
  have HM := Lib.hid hM
  clear hms1 hs1 hk1 hM HS0
  go_wp2_with fail
  have KB1 := Lib.hid (Blk.new w1 35 #[.int .i64 M.kind, .int .i64 M.vocab, .int .i64 M.width, .int .i64 M.top, .slice A4 M.cuts.length c4, .slice A5 M.embed.length c5, .slice A6 M.place.length c6, .slice A7 M.mix.length c7, .slice A8 M.out.length c8, .slice A9 M.soft.length c9, .slice A10 M.odds.length c10])
  have HMm := Lib.hid ((HMS1.out.more (T' := fun g => w.heap.size < g ∧ g < w1.heap.size) (fun b hb ht => ⟨by simp at ht; omega, hb⟩)).alloc (.cells #[.int .i64 M.kind, .int .i64 M.vocab, .int .i64 M.width, .int .i64 M.top, .slice A4 M.cuts.length c4, .slice A5 M.embed.length c5, .slice A6 M.place.length c6, .slice A7 M.mix.length c7, .slice A8 M.out.length c8, .slice A9 M.soft.length c9, .slice A10 M.odds.length c10] 35))
  have HKm := Lib.hid (HK1.out.alloc (.cells #[.int .i64 M.kind, .int .i64 M.vocab, .int .i64 M.width, .int .i64 M.top, .slice A4 M.cuts.length c4, .slice A5 M.embed.length c5, .slice A6 M.place.length c6, .slice A7 M.mix.length c7, .slice A8 M.out.length c8, .slice A9 M.soft.length c9, .slice A10 M.odds.length c10] 35))
  have zm : w1.heap.size < (w1.alloc (.cells #[.int .i64 M.kind, .int .i64 M.vocab, .int .i64 M.width, .int .i64 M.top, .slice A4 M.cuts.length c4, .slice A5 M.embed.length c5, .slice A6 M.place.length c6, .slice A7 M.mix.length c7, .slice A8 M.out.length c8, .slice A9 M.soft.length c9, .slice A10 M.odds.length c10] 35)).heap.size := by simp
  generalize w1.alloc (.cells #[.int .i64 M.kind, .int .i64 M.vocab, .int .i64 M.width, .int .i64 M.top, .slice A4 M.cuts.length c4, .slice A5 M.embed.length c5, .slice A6 M.place.length c6, .slice A7 M.mix.length c7, .slice A8 M.out.length c8, .slice A9 M.soft.length c9, .slice A10 M.odds.length c10] 35) = wm at *
  clear HMS1 HK1
  have HWM := Lib.hid (below_keeps HB0.out HKm.out (fun i e => Nat.le_of_eq e.symm) (by simp))
  refine (range_any wm w.heap.size A nn c l a1 1 8 HS1.out (by omega) (by omega) (by omega) (by omega)).mono ?_
  rintro e w2 ⟨most, a2, rfl, ⟨m1, m2⟩, g2, g2', hs2, hk2⟩
  have HS2 := Lib.hid hs2
  have HK2 := Lib.hid (HKm.out.tr hk2)
  have HM2 := Lib.hid (Keeps.refl (· = w.heap.size) wm |>.tr hk2)
  clear hs2 hk2 HS1 HKm
  go_wp2_with fail
  refine (word_any w2 w.heap.size A nn c l a2 HS2.out (by omega)).mono ?_
  rintro e w3 ⟨sd, a3, rfl, ⟨s1, s2⟩, g3, g3', hs3, hk3⟩
  have HS3 := Lib.hid (hs3.alloc (.cells #[.int .i64 1, .int .i64 2, .slice none 0 0, .int .i64 most, .int .i64 sd] 40))
  have HK3 := Lib.hid ((HK2.out.tr hk3).alloc (.cells #[.int .i64 1, .int .i64 2, .slice none 0 0, .int .i64 most, .int .i64 sd] 40))
  have HM3 := Lib.hid ((HM2.out.tr hk3).alloc (.cells #[.int .i64 1, .int .i64 2, .slice none 0 0, .int .i64 most, .int .i64 sd] 40))
  have z3 := (HM2.out.tr hk3).size
  have KB3 := Lib.hid (Blk.new w3 40 #[.int .i64 1, .int .i64 2, .slice none 0 0, .int .i64 most, .int .i64 sd])
  clear hs3 hk3 HS2 HK2 HM2
  go_wp2_with fail
  obtain ⟨B3, hB3⟩ : ∃ B3, B3 = w3.heap.size := ⟨_, rfl⟩
  rw [← hB3] at KB3 z3
  have zb3 : B3 < (w3.alloc (.cells #[.int .i64 1, .int .i64 2, .slice none 0 0, .int .i64 most, .int .i64 sd] 40)).heap.size := by rw [hB3]; simp
  rw [← hB3]
  generalize w3.alloc (.cells #[.int .i64 1, .int .i64 2, .slice none 0 0, .int .i64 most, .int .i64 sd] 40) = wc at *
  refine (range_any wc w.heap.size A nn c l a3 1 6 HS3.out (by omega) (by omega) (by omega) (by omega)).mono ?_
  rintro e w4 ⟨cnt, a4, rfl, ⟨n1, n2⟩, g4, g4', hs4, hk4⟩
  obtain ⟨N, rfl⟩ := Int.eq_ofNat_of_zero_le (show 0 ≤ cnt by omega)
  have HS4 := Lib.hid hs4
  have HM4 := Lib.hid (HM3.out.tr hk4)
  have HK4 := Lib.hid (HK3.out.tr hk4)
  have KB4 := Lib.hid (hk4.blk KB3.out (by omega))
  clear hs4 hk4 HS3 HK3 HM3 KB3 hB3
  go_wp2_with fail
  obtain ⟨i0, hi, hz0, hz1, hz2⟩ := info_parts int_info
  obtain ⟨hv1, hv2⟩ := HM.out.vocab
  have hown0 : Own w4 (fun g => B3 < g) 3 1 (.slice none 0 0) 0 (ints []) := by simpa [ints] using Own.nil_ w4 (fun g => B3 < g) 3 1
  have hk0 : Keeps (fun g => g = w.heap.size ∨ B3 ≤ g) wm w4 := HM4.out.mono fun i _ e => Or.inl e
  have hmt : MSl wm (fun g => w.heap.size < g ∧ g < w1.heap.size) M (.slice A4 M.cuts.length c4) (.slice A5 M.embed.length c5) (.slice A6 M.place.length c6) (.slice A7 M.mix.length c7) (.slice A8 M.out.length c8) (.slice A9 M.soft.length c9) (.slice A10 M.odds.length c10) := HMm.out
  have hA : ∀ ad, 0 < nn → A = some ad → ad.block < B3 := by
    intro ad h0 e
    obtain ⟨ad', e', hb, -, -⟩ := HRA.out.2 h0
    rw [e] at e'
    injection e' with e'
    subst e'
    omega
  have HA := Lib.hid hA
  have KBm := Lib.hid KB1.out
  have HMT := Lib.hid hmt
  clear hmt hA KB1 HMm HM4
  go_loopw [22] (fun i wr => ∃ (k : Nat) (v : Value) (ts : List Int) (a' : Int), k ≤ N ∧ i = .int .i64 k ∧ ts.length = k ∧ (∀ t ∈ ts, 0 ≤ t ∧ t < (M.vocab : Int)) ∧ Own wr (fun g => B3 < g) 3 1 v k (ints ts) ∧ Blk wr B3 40 #[.int .i64 1, .int .i64 2, v, .int .i64 most, .int .i64 sd] ∧ Str wr w.heap.size A nn c l a' ∧ a4 ≤ a' ∧ a' ≤ a4 + k ∧ Keeps (fun g => g = w.heap.size ∨ B3 ≤ g) wm wr) (fun i _ => N - (intOf i).toNat)
  case atStart => exact ⟨0, _, [], a4, by omega, rfl, rfl, (fun t h => by cases h), hown0, KB4.out, HS4.out, by omega, by omega, hk0⟩
  obtain ⟨k, v, ts, a', hk, rfl, hts, htv, ho, kb3, hs, ga, ga', hkp⟩ := hrel
  have HKP := Lib.hid hkp
  have HTV := Lib.hid htv
  have HTS := Lib.hid hts
  have HO := Lib.hid ho
  have HKB3 := Lib.hid kb3
  have HSS := Lib.hid hs
  clear hkp htv hts ho kb3 hs hown0 hk0 KB4 HS4 HK4
  by_cases hlt : k < N
  · go_upto_region 6 with (fail)
    refine steady_r6 wr w.heap.size w1.heap.size B3 A nn c l a' HSS.out (by omega) HA.out M.vocab ⟨by omega, by omega⟩ _ (HKP.out.blk KBm.out (by show ¬ (_ = _ ∨ _ ≤ _); omega)) rfl most sd k v ts HO.out (by omega) HKB3.out (by omega) (by omega) _ ?_
    intro w5 y24 y25 y26 y27 y28 y29 y30 y31 y32 v' t a5 t1 t2 ho5 hb5 hs5 h5a h5b hk5
    have HF := Lib.hid (HKP.out.tr hk5)
    have HO5 := Lib.hid ho5
    have HB5 := Lib.hid hb5
    have HS5 := Lib.hid hs5
    clear ho5 hb5 hs5 hk5 HKP HO HKB3 HSS
    go_wp2_with fail
    go_roundw
    case rel =>
      refine ⟨k + 1, v', ts ++ [t], a5, by omega, by go_num, by simp [HTS.out], ?_, HO5.out, HB5.out, HS5.out, by omega, by omega, HF.out⟩
      intro x hx
      rcases List.mem_append.1 hx with h | h
      · exact HTV.out x h
      · rw [List.mem_singleton.1 h]; exact ⟨t1, t2⟩
    case measure => simp [intOf]; omega
  obtain rfl : k = N := by omega
  have hkp := HKP.out
  have hmr := HMT.out.keeps hkp (fun i hi e => by have e : i = w.heap.size ∨ B3 ≤ i := e; omega)
  have kbm := hkp.blk KBm.out (by show ¬ (_ = _ ∨ _ ≤ _); omega)
  have hi11 : (Tryz.prog.info? 35).map (·.size) = some 11 := by kernel_rfl
  have hi5 : (Tryz.prog.info? 40).map (·.size) = some 5 := by kernel_rfl
  obtain ⟨Av, cv, rfl, hvc1, hvc2⟩ := HO.out.shape
  have HAL := Lib.hid (alone_any wr _ (fun g => B3 < g) M _ _ _ _ _ _ _ hmr HM.out ⟨1, 2, ts, most, sd⟩ (.slice Av k cv) HO.out.slc ⟨m1, by show most ≤ 32; omega⟩ ⟨s1, s2⟩ ⟨by show 1 ≤ ts.length; rw [HTS.out]; omega, by show ts.length ≤ 32; rw [HTS.out]; omega⟩ HTV.out)
  have KBM := Lib.hid kbm
  have HMR := Lib.hid hmr
  clear kbm hmr hkp
  go_wp2_with (first | (refine wpList_load_blk rfl 35 _ rfl w1.heap.size rfl 35 _ _ KBM.out Tryz.underlying35 rfl hi11 ?_) | (refine wpList_load_blk rfl 40 _ rfl B3 rfl 40 _ _ HKB3.out Tryz.underlying40 rfl hi5 ?_))
  refine HAL.out.mono ?_
  rintro e w6 ⟨va, K, rfl, hal, hoa, hb6⟩
  have HALo := Lib.hid hal
  have HOA := Lib.hid hoa
  have HB6 := Lib.hid hb6
  have hK1 := hal.one
  have hKm := hal.le_most m1
  obtain ⟨Aa, ca, rfl, hac1, hac2⟩ := hoa.shape
  clear hal hoa hb6 HAL
  have HKP6 := Lib.hid (HKP.out.fresh HB6.out)
  have KBM6 := Lib.hid (KBM.out.below HB6.out KBM.out.lt)
  have KR6 := Lib.hid (HKB3.out.below HB6.out HKB3.out.lt)
  have HS6 := Lib.hid (HSS.out.fresh HB6.out)
  have HMR6 := Lib.hid (HMR.out.fresh HB6.out)
  have HO6 := Lib.hid (HO.out.fresh HB6.out)
  have zr := HB6.out.size
  have zb3 := HKB3.out.lt
  have HW6 := Lib.hid (below_keeps HWM.out HKP6.out (fun i e => by have e : i = w.heap.size ∨ B3 ≤ i := e; omega) (by omega))
  clear HKP KBM HKB3 HSS HMR HO HB6
  have HST6 := Lib.hid (HST.out w6 HW6.out)
  have e1 : ((K : Int) == 0) = false := by simp; omega
  have e2 : ¬ most < (K : Int) := by omega
  go_wp2_with fail
  refine HST6.out.mono ?_
  rintro e w7 ⟨rfl, hb7⟩
  have KBM7 := Lib.hid (KBM6.out.below hb7 KBM6.out.lt)
  have KR7 := Lib.hid (KR6.out.below hb7 KR6.out.lt)
  have HS7 := Lib.hid (HS6.out.fresh hb7)
  have HMR7 := Lib.hid (HMR6.out.fresh hb7)
  have HO7 := Lib.hid (HO6.out.fresh hb7)
  have HOA7 := Lib.hid (HOA.out.fresh hb7)
  have HKP7 := Lib.hid (HKP6.out.fresh hb7)
  have zb7 := hb7.size
  have c3 := KR7.out.cell 3
  clear KBM6 KR6 HS6 HMR6 HO6 HOA HKP6 hb7 HST6
  go_upto_region 11 with (fail)
  clear c3 e1 e2
  go_upto_region 12 with (refine wpList_load_blk rfl 40 _ rfl B3 rfl 40 _ _ KR7.out Tryz.underlying40 rfl hi5 ?_)
  have zB : B3 < w7.heap.size := by omega
  have KQ8 := Lib.hid (Blk.new w7 40 #[.int .i64 1, .int .i64 2, .slice Av k cv, .int .i64 most, .int .i64 sd])
  have KBM8 := Lib.hid (KBM7.out.alloc (.cells #[.int .i64 1, .int .i64 2, .slice Av k cv, .int .i64 most, .int .i64 sd] 40))
  have KR8 := Lib.hid (KR7.out.alloc (.cells #[.int .i64 1, .int .i64 2, .slice Av k cv, .int .i64 most, .int .i64 sd] 40))
  have HS8 := Lib.hid (HS7.out.alloc (.cells #[.int .i64 1, .int .i64 2, .slice Av k cv, .int .i64 most, .int .i64 sd] 40))
  have HMR8 := Lib.hid (HMR7.out.alloc (.cells #[.int .i64 1, .int .i64 2, .slice Av k cv, .int .i64 most, .int .i64 sd] 40))
  have HO8 := Lib.hid ((HO7.out.more (T' := fun g => B3 < g ∧ g < w7.heap.size) (fun g h1 h2 => ⟨h2, h1⟩)).alloc (.cells #[.int .i64 1, .int .i64 2, .slice Av k cv, .int .i64 most, .int .i64 sd] 40))
  have HOA8 := Lib.hid ((HOA7.out.more (T' := fun g => B3 < g ∧ g < w7.heap.size) (fun g h1 h2 => ⟨by omega, h1⟩)).alloc (.cells #[.int .i64 1, .int .i64 2, .slice Av k cv, .int .i64 most, .int .i64 sd] 40))
  have HKP8 := Lib.hid (HKP7.out.alloc (.cells #[.int .i64 1, .int .i64 2, .slice Av k cv, .int .i64 most, .int .i64 sd] 40))
  have z8 : w7.heap.size < (w7.alloc (.cells #[.int .i64 1, .int .i64 2, .slice Av k cv, .int .i64 most, .int .i64 sd] 40)).heap.size := by simp
  clear KBM7 KR7 HS7 HMR7 HO7 HOA7 HKP7
  generalize w7.alloc (.cells #[.int .i64 1, .int .i64 2, .slice Av k cv, .int .i64 most, .int .i64 sd] 40) = w8 at *
  generalize w7.heap.size = B8 at *
  have c3 := KR8.out.cell 3
  go_wp2_with fail
  refine (range_any w8 w.heap.size A nn c l a' 1 most HS8.out (by omega) (by omega) (by omega) (by omega)).mono ?_
  rintro e w9 ⟨most2, a9, rfl, ⟨q1, q2⟩, g9, g9', hs9, hk9⟩
  have KQ9 := Lib.hid (hk9.blk KQ8.out (by show ¬ _ = _; omega))
  have KBM9 := Lib.hid (hk9.blk KBM8.out (by show ¬ _ = _; omega))
  have KR9 := Lib.hid (hk9.blk KR8.out (by show ¬ _ = _; omega))
  have HMR9 := Lib.hid (HMR8.out.keeps hk9 (fun i hi e => by have e : i = w.heap.size := e; omega))
  have HO9 := Lib.hid (HO8.out.keeps hk9 (fun i hi e => by have e : i = w.heap.size := e; omega))
  have HOA9 := Lib.hid (HOA8.out.keeps hk9 (fun i hi e => by have e : i = w.heap.size := e; omega))
  have HKP9 := Lib.hid (HKP8.out.tr (hk9.mono (S' := fun g => g = w.heap.size ∨ B3 ≤ g) (fun _ _ e => Or.inl e)))
  have z9 := hk9.size
  clear KQ8 KBM8 KR8 HS8 HMR8 HO8 HOA8 HKP8 hs9 hk9 c3
  have d0 := KQ9.out.cell 0
  have d1 := KQ9.out.cell 1
  have d3 := KQ9.out.cell 3
  have f0 := KQ9.out.frozen 0
  have f1 := KQ9.out.frozen 1
  have f3 := KQ9.out.frozen 3
  go_upto_region 13 with (fail)
  have HKQ := Lib.hid ((((Keeps.refl (fun g => g = B8) w9).setCell (p := ⟨B8, 0, none⟩) (fun _ => rfl) (.int .i64 77)).setCell (p := ⟨B8, 1, none⟩) (fun _ => rfl) (.int .i64 5)).setCell (p := ⟨B8, 3, none⟩) (fun _ => rfl) (.int .i64 most2))
  have KQ10 : Hid (Blk (((w9.setCell ⟨B8, 0, none⟩ (.int .i64 77)).setCell ⟨B8, 1, none⟩ (.int .i64 5)).setCell ⟨B8, 3, none⟩ (.int .i64 most2)) B8 40 #[.int .i64 77, .int .i64 5, .slice Av k cv, .int .i64 most2, .int .i64 sd]) := Lib.hid (((KQ9.out.set_ 0 (.int .i64 77)).set_ 1 (.int .i64 5)).set_ 3 (.int .i64 most2))
  clear d0 d1 d3 f0 f1 f3 KQ9
  generalize (((w9.setCell ⟨B8, 0, none⟩ (.int .i64 77)).setCell ⟨B8, 1, none⟩ (.int .i64 5)).setCell ⟨B8, 3, none⟩ (.int .i64 most2)) = w10 at *
  have KBM10 := Lib.hid (HKQ.out.blk KBM9.out (by show ¬ _ = _; omega))
  have KR10 := Lib.hid (HKQ.out.blk KR9.out (by show ¬ _ = _; omega))
  have HMR10 := Lib.hid (HMR9.out.keeps HKQ.out (fun i hi e => by have e : i = B8 := e; omega))
  have HO10 := Lib.hid (HO9.out.keeps HKQ.out (fun i hi e => by have e : i = B8 := e; omega))
  have HOA10 := Lib.hid (HOA9.out.keeps HKQ.out (fun i hi e => by have e : i = B8 := e; omega))
  have HKP10 := Lib.hid (HKP9.out.tr (HKQ.out.mono (S' := fun g => g = w.heap.size ∨ B3 ≤ g) (fun _ _ e => Or.inr (by have e : _ = B8 := e; omega))))
  have HAL2 := Lib.hid (alone_any w10 _ _ M _ _ _ _ _ _ _ HMR10.out HM.out ⟨77, 5, ts, most2, sd⟩ (.slice Av k cv) HO10.out.slc ⟨q1, by show most2 ≤ 32; omega⟩ ⟨s1, s2⟩ ⟨by show 1 ≤ ts.length; rw [HTS.out]; omega, by show ts.length ≤ 32; rw [HTS.out]; omega⟩ HTV.out)
  clear KBM9 KR9 HMR9 HO9 HOA9 HKP9 HKQ HMR10 HO10
  go_wp2_with (first | (refine wpList_load_blk rfl 35 _ rfl w1.heap.size rfl 35 _ _ KBM10.out Tryz.underlying35 rfl hi11 ?_) | (refine wpList_load_blk rfl 40 _ rfl B8 rfl 40 _ _ KQ10.out Tryz.underlying40 rfl hi5 ?_))
  refine HAL2.out.mono ?_
  rintro e w11 ⟨vb, L, rfl, hal2, hob, hb11⟩
  have hL := HALo.out.shorter hal2 q1 q2
  have hL1 := hal2.one
  obtain ⟨Ab, cb, rfl, hbc1, hbc2⟩ := hob.shape
  have KR11 := KR10.out.below hb11 KR10.out.lt
  have KQ11 := KQ10.out.below hb11 KQ10.out.lt
  have hoa11 := HOA10.out.fresh hb11
  have HF := Lib.hid (below_keeps HWM.out (HKP10.out.fresh hb11) (fun i e => by have e : i = w.heap.size ∨ B3 ≤ i := e; omega) (by omega))
  have HGT := Lib.hid (gen_take M sd ts K L (by omega))
  have HGT1 := Lib.hid (gen_take M sd ts K (K - 1) (by omega))
  have hra := hoa11.reads
  have hrb := hob.reads
  have c3 := KR11.cell 3
  have d3 := KQ11.cell 3
  clear HAL2 KR10 KQ10 HOA10 HKP10 hb11 hal2 hob KR11 KQ11 hoa11 KBM10
  have hlk : L ≤ K := by omega
  have HEQ : Hid (Calls Tryz.prog 16 #[.slice Ab L cb, .slice Aa L ca] w11 fun e w' => e = .returned (.bool true) ∧ ∃ k, w' = w11.drewN k) := Lib.hid (by
    have h1 := hra.take hlk
    rw [show (ints (gen M sd ts K)).take (L * 1) = ints ((gen M sd ts K).take L) by simp [ints, List.map_take], HGT.out] at h1
    refine (eqInts_any w11 _ _ Ab Aa L L cb ca _ _ hrb h1 (by omega)).mono ?_
    rintro e w' ⟨rfl, h⟩
    exact ⟨by simp, h⟩)
  have HCN : Hid (∀ q, Calls Tryz.prog 17 #[.slice Aa (K - 1) ca, .int .i64 0] (w11.drewN q) fun e w' => e = .returned (.bool false) ∧ w11.drewN q = w') := Lib.hid (fun q => by
    have h1 := (hra.take (show K - 1 ≤ K by omega)).drewN q
    rw [show (ints (gen M sd ts K)).take ((K - 1) * 1) = ints ((gen M sd ts K).take (K - 1)) by simp [ints, List.map_take], HGT1.out] at h1
    exact contains_out _ _ Aa (K - 1) ca _ h1 (by omega) 0 HALo.out.no_zero)
  obtain ⟨ad, u, rfl, -, -, hu, hcl⟩ := hra.at_ (show K - 1 < K by omega)
  have hu0 : (K : Int) = most ∨ u = .int .i64 0 := by
    rcases HALo.out.ends with h | h
    · exact Or.inl h
    · right
      have hl : K - 1 < (gen M sd ts K).length := by rw [gen_length]; omega
      rw [ints_get _ _ hl] at hu
      injection hu with hu
      rw [← hu]
      have := gen_get M sd ts K (K - 1) (by omega)
      rw [List.getElem?_eq_getElem hl] at this
      injection this with this
      rw [this, h]
  clear hra hrb hu HGT HGT1
  have hmin : min (K : Int) most2 = (L : Int) := hL.symm
  go_upto_region 14 with (fail)
  refine steady_r14 w11 B3 B8 K (K - 1) L ca cb (by omega) ad Ab most most2 u c3 d3 hcl hu0 hmin (by omega) (by omega) hac2 (by omega) HEQ HCN _ ?_
  intro y72 y73 y74 y75 y76 y77 y78 y79 y80 y81 y82 y83 y84 y85 y86 y87 y88 y89 y90 y91 y92 y93 y94 y95 y96 y97 y98 y99 y100 y101 y102 y103 y104 y105 y106 y107 y108 y109 q
  go_wp2_with fail
  go_ret
  exact ⟨rfl, HF.out.os, HF.out.tape, HF.out.output, HF.out.size, HF.out.block⟩
end Go.Proofs.YtempdomhbfokmaaGreatDoor

/- ChipRereads: the walk of the law, given stands(). -/
import Derived.Test.YtpcejpcbkjnlkaaGreatDoorZa31
import Derived.Test.YtpcejpcbkjnlkaaGreatDoorZa37
import Derived.Test.YtpcejpcbkjnlkaaGreatDoorZa25
import Derived.Test.YtpcejpcbkjnlkaaGreatDoorZa12
set_option linter.unusedVariables false
namespace Go.Proofs.YtpcejpcbkjnlkaaGreatDoor
open Go.RowKit

def McS (M : Nat) (m : Mach) (W : World) : Prop := W.cell? ⟨M, 0, none⟩ = some (.int .i64 m.main) ∧ W.cell? ⟨M, 1, none⟩ = some (.int .i64 m.banks) ∧ W.cell? ⟨M, 2, none⟩ = some (.int .i64 m.bank) ∧ W.cell? ⟨M, 3, none⟩ = some (.int .i64 m.lanes) ∧ W.cell? ⟨M, 4, none⟩ = some (.int .i64 m.queues)
theorem mcS {M : Nat} {m : Mach} {W : World} (h : Blk W M 27 #[.int .i64 m.main, .int .i64 m.banks, .int .i64 m.bank, .int .i64 m.lanes, .int .i64 m.queues]) : McS M m W := ⟨h.cell 0, h.cell 1, h.cell 2, h.cell 3, h.cell 4⟩
theorem below_keepsR {a b c : World} {S : Nat → Prop} (h : Below a.heap.size a b) (k : Keeps S b c) (hS : ∀ i, S i → a.heap.size ≤ i) : Below a.heap.size a c :=
  ⟨k.os.trans h.os, k.tape.trans h.tape, k.output.trans h.output, Nat.le_trans h.size k.size, fun i hi => (k.block i (by have := h.size; omega) (fun e => by have := hS i e; omega)).trans (h.block i hi)⟩
set_option maxRecDepth 100000 in
set_option maxHeartbeats 16000000 in
theorem rereads_walk (w : World) (A : Option Addr) (nn c : Nat) (l : List Int) (hr : Reads w (fun _ => True) 1 A nn (ints l)) (hwf : ∀ x ∈ l, -9223372036854775808 ≤ x ∧ x ≤ 9223372036854775807) (hn : nn ≤ 9223372036854775807) (ht : Tb w) (hmx : Mx w)
    (hst : ∀ W, Calls Tryz.prog 12 #[] W fun e w' => e = .returned (.bool true) ∧ Below W.heap.size W w') :
    Calls Tryz.prog 3 #[.slice A nn c] w fun e w' => e = .returned (.bool true) ∧ Below w.heap.size w w' := by
  have HST := Lib.hid hst
  have HT := Lib.hid ht
  have HMX := Lib.hid hmx
  have hi5 : (Tryz.prog.info? 27).map (·.size) = some 5 := by kernel_rfl
  have hs0 : Str (w.alloc (.cells #[.slice A nn c, .int .i64 0] 25)) w.heap.size A nn c l 0 := by
    refine ⟨Blk.new _ _ _, ?_, hwf, hn, Int.le_refl 0⟩
    have := (hr.old.alloc (.cells #[.slice A nn c, .int .i64 0] 25))
    exact this.more fun b _ h => Nat.ne_of_lt h
  have HS0 := Lib.hid hs0
  have HB0 := Lib.hid ((Below.refl w.heap.size w).alloc (Nat.le_refl _) (.cells #[.slice A nn c, .int .i64 0] 25))
  clear hs0 hst hr hwf ht hmx
  go_enter Tryz.func3, Tryz.ntmps3
  go_wp2_with fail
  refine (machine_any _ w.heap.size A nn c l 0 HS0.out (by omega)).mono ?_
  rintro e w1 ⟨m, a1, rfl, hM, g1, g1', hs1, hk1⟩
  have zp : w.heap.size < w1.heap.size := by have := hk1.size; simp at this; omega
  have HW1 := Lib.hid (below_keepsR HB0.out hk1 (fun i e => Nat.le_of_eq e.symm))
  have HS1 := Lib.hid (hs1.alloc (.cells m.cells 27))
  have HG := Lib.hid hM
  have HM1 := Lib.hid (Blk.new w1 27 m.cells)
  have HB1 := Lib.hid (HW1.out.alloc HW1.out.size (.cells m.cells 27))
  clear hs1 hk1 hM HS0 HB0 HW1
  unfold Mach.val
  unfold Mach.cells at HS1 HM1 HB1 ⊢
  go_upto_region 3 with (fail)
  obtain ⟨M, hMq⟩ : ∃ M, M = w1.heap.size := ⟨_, rfl⟩
  obtain ⟨p, hp⟩ : ∃ p, p = w.heap.size := ⟨_, rfl⟩
  have hpM : M ≠ p := by omega
  have HPw := Lib.hid hp
  generalize hw2 : w1.alloc (.cells #[.int .i64 m.main, .int .i64 m.banks, .int .i64 m.bank, .int .i64 m.lanes, .int .i64 m.queues] 27) = w2 at *
  rw [← hMq] at HM1 ⊢
  rw [← hp] at HS1 ⊢
  clear hw2 hMq hp zp
  have HM2 := Lib.hid HM1.out.drew
  have HB2 := Lib.hid HB1.out.drew
  have HS2 := Lib.hid HS1.out.drew
  clear HM1 HB1 HS1
  obtain ⟨w3, hw3⟩ : ∃ w3, w3 = w2.drew := ⟨_, rfl⟩
  rw [← hw3] at HM2 HB2 HS2
  have cS : McS M m w2.drew := by rw [← hw3]; exact mcS HM2.out
  have HW3 := Lib.hid hw3
  clear hw3
  refine wp_region_last (n := 5) (McS M m) _ (by kernel_rfl) (by kernel_rfl) rfl cS ?_
  clear cS
  rw [← HW3.out]
  refine HW.take 0 (v := ?_) rfl (by kernel_rfl) (by kernel_rfl) (by kernel_rfl) (fun _ _ _ h => h) (by kernel_rfl) ?_ ?_; rotate_left 1; (focus (intro W hW; unfold McS at hW; (try dsimp only at hW); go_split_ands; first | (go_simp; done) | (go_simp; with_reducible rfl))); simp only [Act.put, List.setIfInBounds_toArray, List.set_cons_zero, List.set_cons_succ]
  refine HW.take 1 (v := ?_) rfl (by kernel_rfl) (by kernel_rfl) (by kernel_rfl) (fun _ _ _ h => h) (by kernel_rfl) ?_ ?_; rotate_left 1; (focus (intro W hW; unfold McS at hW; (try dsimp only at hW); go_split_ands; first | (go_simp; done) | (go_simp; with_reducible rfl))); simp only [Act.put, List.setIfInBounds_toArray, List.set_cons_zero, List.set_cons_succ]
  refine HW.take 2 (v := ?_) rfl (by kernel_rfl) (by kernel_rfl) (by kernel_rfl) (fun _ _ _ h => h) (by kernel_rfl) ?_ ?_; rotate_left 1; (focus (intro W hW; unfold McS at hW; (try dsimp only at hW); go_split_ands; first | (go_simp; done) | (go_simp; with_reducible rfl))); simp only [Act.put, List.setIfInBounds_toArray, List.set_cons_zero, List.set_cons_succ]
  refine HW.only 3 rfl (by kernel_rfl) (by kernel_rfl) (fun K hK => Or.inl ?_)
  go_simp
  refine (range_any w3 p A nn c l a1 0 12 HS2.out (by omega) (by omega) (by omega) (by omega)).mono ?_
  rintro e w4 ⟨y, a3, rfl, ⟨y1, y2⟩, g3, g3', hs3, hk3⟩
  have HM4 := Lib.hid (hk3.blk HM2.out hpM)
  have HB4 := Lib.hid (below_keepsR HB2.out hk3 (fun i e => by have := HPw.out; have e : i = p := e; omega))
  have HS4 := Lib.hid hs3
  refine hK _ _ (mcS HM4.out) ?_
  clear hK K hk3 hs3 HM2 HB2 HS2
  refine HW.only 4 rfl (by kernel_rfl) (by kernel_rfl) (fun K hK => Or.inl ?_)
  go_simp
  refine (scode_any w4 p A nn c l a3 HS4.out (by omega) m y (by omega) (by omega)).mono ?_
  rintro e w5 ⟨v, xs, a4, k, rfl, hown, hseg, hk30, hxl, -, -, -, hk4⟩
  have HM5 := Lib.hid (hk4.blk HM4.out hpM)
  have HB5 := Lib.hid (below_keepsR HB4.out hk4 (fun i e => by have := HPw.out; have e : i = p := e; omega))
  have HO5 := Lib.hid hown
  have HSG := Lib.hid hseg
  refine hK _ _ (mcS HM5.out) ?_
  clear hK K hk4 hown hseg HM4 HB4 HS4
  refine HW.skip 5 rfl (by kernel_rfl) (by kernel_rfl) (by kernel_rfl) (fun _ _ _ h => h) (by kernel_rfl) ?_
  refine HW.last (by kernel_rfl) rfl (fun K hK => ?_)
  go_simp
  refine hK _ _ ?_
  clear hK K
  have HT5 := Lib.hid (HT.out.below HB5.out)
  have HX5 := Lib.hid (HMX.out.below HB5.out)
  obtain ⟨A5, c5, rfl, -, -⟩ := HO5.out.shape
  cases hok : m.ok with
  | false =>
    have HTX := Lib.hid (fun W => text_bad m hok W (.slice A5 xs.length c5))
    have HAS := Lib.hid (fun W => assemble_bad m hok W (.string ⟨#[]⟩))
    have HEN := Lib.hid (fun W => encode_bad m hok W (.slice A5 xs.length c5))
    have HDE := Lib.hid (fun W => decode_bad m hok W (.slice none 0 0))
    have HCM := Lib.hid (fun W => cm_any m W)
    rw [hok] at HCM
    unfold Mach.val Mach.cells at HTX HAS HEN HDE HCM
    clear hok HMX HT HT5 HX5 HO5 HSG
    go_wp2_with (refine wpList_load_blk rfl 27 _ rfl M rfl 27 _ _ HM5.out Tryz.underlying27 rfl hi5 ?_)
    refine (HTX.out _).mono ?_
    rintro e w6 ⟨rfl, hb6⟩
    have HM6 := Lib.hid (HM5.out.below hb6 HM5.out.lt)
    have HB6 := Lib.hid (HB5.out.trans (hb6.mono HB5.out.size))
    clear hb6 HM5 HB5
    go_wp2_with (refine wpList_load_blk rfl 27 _ rfl M rfl 27 _ _ HM6.out Tryz.underlying27 rfl hi5 ?_)
    refine (HAS.out _).mono ?_
    rintro e w7 ⟨rfl, hb7⟩
    have HM7 := Lib.hid (HM6.out.below hb7 HM6.out.lt)
    have HB7 := Lib.hid (HB6.out.trans (hb7.mono HB6.out.size))
    clear hb7 HM6 HB6
    go_wp2_with (refine wpList_load_blk rfl 27 _ rfl M rfl 27 _ _ HM7.out Tryz.underlying27 rfl hi5 ?_)
    refine (HEN.out _).mono ?_
    rintro e w8 ⟨rfl, hb8⟩
    have HM8 := Lib.hid (HM7.out.below hb8 HM7.out.lt)
    have HB8 := Lib.hid (HB7.out.trans (hb8.mono HB7.out.size))
    clear hb8 HM7 HB7
    go_wp2_with (refine wpList_load_blk rfl 27 _ rfl M rfl 27 _ _ HM8.out Tryz.underlying27 rfl hi5 ?_)
    refine (HDE.out _).mono ?_
    rintro e w9 ⟨rfl, hb9⟩
    have HM9 := Lib.hid (HM8.out.below hb9 HM8.out.lt)
    have HB9 := Lib.hid (HB8.out.trans (hb9.mono HB8.out.size))
    clear hb9 HM8 HB8
    go_wp2_with (refine wpList_load_blk rfl 27 _ rfl M rfl 27 _ _ HM9.out Tryz.underlying27 rfl hi5 ?_)
    refine (HCM.out _).mono ?_
    rintro e w10 ⟨rfl, hb10⟩
    have HB10 := Lib.hid (HB9.out.trans (hb10.mono HB9.out.size))
    clear hb10 HM9 HB9
    go_wp2_with fail
    refine (HST.out _).mono ?_
    rintro e w11 ⟨rfl, hb11⟩
    have HB11 := Lib.hid (HB10.out.trans (hb11.mono HB10.out.size))
    clear hb11
    go_wp2_with fail
    go_ret
    exact ⟨rfl, HB11.out⟩
  | true =>
    have hmo := m.ok_out hok
    have hcode : CodeOk m xs := HSG.out.ok (by omega) (by omega) (by omega) (by omega) (by show max 1 (min m.lanes 8) ≤ m.lanes; omega) (by show max 1 (min m.queues 4) ≤ m.queues; omega)
    have HTX := Lib.hid (fun W h1 h2 => text_any m hok W (T := fun g => w4.heap.size ≤ g) (v := .slice A5 xs.length c5) xs h1 hcode h2 hxl)
    have HAS := Lib.hid (fun W h1 h2 => assemble_any m hok W xs hcode h1 h2 hxl)
    have HEN := Lib.hid (fun W h => encode_any m hok W (T := fun g => w4.heap.size ≤ g) (v := .slice A5 xs.length c5) xs h hcode)
    have HDE := Lib.hid (fun W T v h => decode_any m hok W (T := T) (v := v) xs h hcode)
    have HCM := Lib.hid (fun W => cm_any m W)
    rw [if_pos hok] at HCM
    unfold Mach.val Mach.cells at HTX HAS HEN HDE HCM
    obtain ⟨S, hS⟩ : ∃ S : ByteArray, S = ⟨(textB xs).toArray⟩ := ⟨_, rfl⟩
    rw [← hS] at HTX HAS
    clear hok hmo hcode HSG hS
    go_wp2_with (refine wpList_load_blk rfl 27 _ rfl M rfl 27 _ _ HM5.out Tryz.underlying27 rfl hi5 ?_)
    refine (HTX.out _ HO5.out HT5.out).mono ?_
    rintro e w6 ⟨rfl, hb6⟩
    have HM6 := Lib.hid (HM5.out.below hb6 HM5.out.lt)
    have HB6 := Lib.hid (HB5.out.trans (hb6.mono HB5.out.size))
    have HO6 := Lib.hid (HO5.out.fresh hb6)
    clear hb6 HM5 HB5 HO5 HTX
    go_wp2_with (refine wpList_load_blk rfl 27 _ rfl M rfl 27 _ _ HM6.out Tryz.underlying27 rfl hi5 ?_)
    refine (HAS.out _ (HMX.out.below HB6.out) (HT.out.below HB6.out)).mono ?_
    rintro e w7 ⟨va, rfl, ha, hb7⟩
    have HM7 := Lib.hid (HM6.out.below hb7 HM6.out.lt)
    have HB7 := Lib.hid (HB6.out.trans (hb7.mono HB6.out.size))
    have HO7 := Lib.hid (HO6.out.fresh hb7)
    have HA7 := Lib.hid ha
    obtain ⟨A7, c7, rfl, -, -⟩ := ha.shape
    clear hb7 HM6 HB6 HO6 ha HAS
    go_wp2_with (refine wpList_load_blk rfl 27 _ rfl M rfl 27 _ _ HM7.out Tryz.underlying27 rfl hi5 ?_)
    refine (HEN.out _ HO7.out).mono ?_
    rintro e w8 ⟨vb, rfl, hv, hb8⟩
    have HM8 := Lib.hid (HM7.out.below hb8 HM7.out.lt)
    have HB8 := Lib.hid (HB7.out.trans (hb8.mono HB7.out.size))
    have HO8 := Lib.hid (HO7.out.fresh hb8)
    have HA8 := Lib.hid (HA7.out.fresh hb8)
    have HV8 := Lib.hid hv
    obtain ⟨A8, c8, rfl, -, -⟩ := hv.shape
    clear hb8 HM7 HB7 HO7 HA7 hv HEN
    go_wp2_with (refine wpList_load_blk rfl 27 _ rfl M rfl 27 _ _ HM8.out Tryz.underlying27 rfl hi5 ?_)
    refine (HDE.out _ _ _ HV8.out).mono ?_
    rintro e w9 ⟨vd, rfl, hd, hb9⟩
    have HM9 := Lib.hid (HM8.out.below hb9 HM8.out.lt)
    have HB9 := Lib.hid (HB8.out.trans (hb9.mono HB8.out.size))
    have HO9 := Lib.hid (HO8.out.fresh hb9)
    have HA9 := Lib.hid (HA8.out.fresh hb9)
    have HD9 := Lib.hid hd
    obtain ⟨A9, c9, rfl, -, -⟩ := hd.shape
    clear hb9 HM8 HB8 HO8 HA8 HV8 hd HDE
    go_wp2_with (refine wpList_load_blk rfl 27 _ rfl M rfl 27 _ _ HM9.out Tryz.underlying27 rfl hi5 ?_)
    refine (HCM.out _).mono ?_
    rintro e w10 ⟨rfl, hb10⟩
    have HB10 := Lib.hid (HB9.out.trans (hb10.mono HB9.out.size))
    have HO10 := Lib.hid (HO9.out.fresh hb10)
    have HA10 := Lib.hid (HA9.out.fresh hb10)
    have HD10 := Lib.hid (HD9.out.fresh hb10)
    clear hb10 HM9 HB9 HO9 HA9 HD9 HCM
    go_wp2_with fail
    refine (HST.out _).mono ?_
    rintro e w11 ⟨rfl, hb11⟩
    have HB11 := Lib.hid (HB10.out.trans (hb11.mono HB10.out.size))
    have HO11 := Lib.hid (HO10.out.fresh hb11)
    have HA11 := Lib.hid (HA10.out.fresh hb11)
    have HD11 := Lib.hid (HD10.out.fresh hb11)
    clear hb11 HB10 HO10 HA10 HD10
    go_wp2_with fail
    refine (equal_any w11 xs HA11.out HO11.out).mono ?_
    rintro e w12 ⟨rfl, hb12⟩
    have HB12 := Lib.hid (HB11.out.trans (hb12.mono HB11.out.size))
    have HO12 := Lib.hid (HO11.out.fresh hb12)
    have HD12 := Lib.hid (HD11.out.fresh hb12)
    clear hb12
    go_wp2_with fail
    refine (equal_any w12 xs HD12.out HO12.out).mono ?_
    rintro e w13 ⟨rfl, hb13⟩
    have HB13 := Lib.hid (HB12.out.trans (hb13.mono HB12.out.size))
    clear hb13
    go_wp2_with fail
    go_ret
    exact ⟨rfl, HB13.out⟩
end Go.Proofs.YtpcejpcbkjnlkaaGreatDoor

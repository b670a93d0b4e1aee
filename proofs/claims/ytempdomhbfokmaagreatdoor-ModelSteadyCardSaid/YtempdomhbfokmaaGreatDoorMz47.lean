/- weftmake.Reduced: the number n / d. stands(): num.Make(2, 4). -/
import Derived.Test.YtempdomhbfokmaaGreatDoorMz46
import Derived.Test.YtempdomhbfokmaaGreatDoorMz21
namespace Go.Proofs.YtempdomhbfokmaaGreatDoor
open Go.RowKit

def itoaB (n : Int) : ByteArray := ⟨(Lib.itoa n).toArray⟩
theorem itoaB_num (q : Rat) : itoaB q.num = numB q := by
  unfold itoaB numB Lib.itoa ngN
  by_cases h : q.num < 0
  · rw [if_pos h, decide_eq_true h, if_pos rfl]
    unfold decB
    apply ByteArray.ext
    simp
  · rw [if_neg h, decide_eq_false h, if_neg (by simp)]
    unfold decB
    congr 3
    omega
theorem itoaB_nat (n : Nat) : itoaB (n : Int) = decB n := by
  unfold itoaB Lib.itoa decB
  rw [if_neg (by omega)]
  rfl
theorem itoa_any (w : World) (n : Int) (h0 : -9223372036854775808 ≤ n) (h1 : n ≤ 9223372036854775807) (htb : Tb w) :
    Calls Tryz.prog 40 #[.int .i64 n] w fun e w' => e = .returned (.string (itoaB n)) ∧ Below w.heap.size w w' :=
  (Tryz.strconv_Itoa n h0 h1 w htb).mono fun e w' ⟨h, k, os, hw⟩ => ⟨h, by rw [hw]; exact (((Keeps.of_below (Below.refl w.heap.size w) (fun _ => False)).drewN k).to_below).trans (below_grow (w.drewN k) os)⟩
/-- n / d in lowest terms -/
theorem red_parts (n : Int) (N d : Nat) (hd : 0 < d) (hN : n.natAbs = N) : (mkRat n d).num = n.tdiv (Nat.gcd N d : Nat) ∧ ((mkRat n d).den : Int) = (d : Int).tdiv (Nat.gcd N d : Nat) := by
  subst hN
  have e : mkRat n d = Rat.normalize n d (by omega) := by rw [Rat.mkRat_def, dif_neg (by omega)]
  rw [e, Rat.normalize_eq]
  have hdv : ((Nat.gcd n.natAbs d : Nat) : Int) ∣ n := by
    have h := Nat.gcd_dvd_left n.natAbs d
    exact Int.ofNat_dvd_left.2 h
  exact ⟨(Int.tdiv_eq_ediv_of_dvd hdv).symm, by rw [Int.tdiv_eq_ediv_of_nonneg (by omega)]; rfl⟩
set_option maxRecDepth 100000 in
set_option maxHeartbeats 8000000 in
theorem reduced_int (w : World) (n : Int) (d : Nat) (hn : -2147483648 ≤ n ∧ n ≤ 2147483648) (hd : 1 ≤ d ∧ d ≤ 2147483648) (htb : Tb w) :
    Calls Tryz.prog 20 #[.int .i64 n, .int .i64 d] w fun e w' => e = .returned (ratV (mkRat n d)) ∧ Below w.heap.size w w' := by
  obtain ⟨N, hN⟩ : ∃ N, N = n.natAbs := ⟨_, rfl⟩
  obtain ⟨q1, q2⟩ := red_parts n N d (by omega) hN.symm
  unfold ratV
  rw [← itoaB_num, ← itoaB_nat, q1, q2]
  clear q1 q2
  have hmax : max n (-n) = (N : Int) := by omega
  have hneg : wrap64 (-n) = -n := IntWalk.wrap64_in _ ⟨by omega, by omega⟩
  have HTB := Lib.hid htb
  obtain ⟨d0, hd0⟩ : ∃ d0 : Int, d0 = d := ⟨_, rfl⟩
  rw [← hd0]
  obtain ⟨g, hg⟩ : ∃ g, g = Nat.gcd N d := ⟨_, rfl⟩
  rw [← hg]
  have hg0 : g ≠ 0 := by
    have := Nat.gcd_pos_of_pos_right N (show 0 < d by omega)
    omega
  have hgx : ¬ (g : Int) = 0 := by omega
  have hn1 : (n.tdiv (g : Int)).natAbs ≤ n.natAbs := by
    rw [Int.natAbs_tdiv]
    exact Nat.div_le_self _ _
  have hd1 : ((d0.tdiv (g : Int))).natAbs ≤ d0.natAbs := by
    rw [Int.natAbs_tdiv]
    exact Nat.div_le_self _ _
  obtain ⟨n1, en1⟩ : ∃ n1, n1 = n.tdiv (g : Int) := ⟨_, rfl⟩
  obtain ⟨d1, ed1⟩ : ∃ d1, d1 = d0.tdiv (g : Int) := ⟨_, rfl⟩
  rw [← en1] at hn1
  rw [← ed1] at hd1
  have hn2 : -2147483648 ≤ n1 ∧ n1 ≤ 2147483648 := by omega
  have hd2 : -2147483648 ≤ d1 ∧ d1 ≤ 2147483648 := by omega
  have wn1 : wrap64 n1 = n1 := IntWalk.wrap64_in _ ⟨by omega, by omega⟩
  have HWN : Hid (IntKind.i64.wrap n1 = n1) := Lib.hid <| IntWalk.i64_in _ ⟨by omega, by omega⟩
  have HWD : Hid (IntKind.i64.wrap d1 = d1) := Lib.hid <| IntWalk.i64_in _ ⟨by omega, by omega⟩
  have wd1 : wrap64 d1 = d1 := IntWalk.wrap64_in _ ⟨by omega, by omega⟩
  have HI1 : Hid (∀ W, Below w.heap.size w W → Calls Tryz.prog 40 #[.int .i64 n1] W fun e w' => e = .returned (.string (itoaB n1)) ∧ Below W.heap.size W w') := Lib.hid fun W hW => itoa_any W n1 (by omega) (by omega) (HTB.out.below hW)
  have HI2 : Hid (∀ W, Below w.heap.size w W → Calls Tryz.prog 40 #[.int .i64 d1] W fun e w' => e = .returned (.string (itoaB d1)) ∧ Below W.heap.size W w') := Lib.hid fun W hW => itoa_any W d1 (by omega) (by omega) (HTB.out.below hW)
  rw [← en1, ← ed1]
  replace en1 := en1.symm
  replace ed1 := ed1.symm
  generalize itoaB n1 = sn at *
  generalize itoaB d1 = sd at *
  clear htb hN hn1 hd1 hn2 hd2 hg0 HTB
  go_enter Tryz.func20, Tryz.ntmps20
  go_wp2_with fail
  have KR0 := Lib.hid (Blk.new w 27 #[.string ⟨#[]⟩, .string ⟨#[]⟩])
  have HB0 := Lib.hid ((Below.refl w.heap.size w).alloc (Nat.le_refl _) (.cells #[.string ⟨#[]⟩, .string ⟨#[]⟩] 27))
  obtain ⟨w2, hw2⟩ : ∃ w2, w2 = w.alloc (.cells #[.string ⟨#[]⟩, .string ⟨#[]⟩] 27) := ⟨_, rfl⟩
  rw [← hw2] at KR0 HB0 ⊢
  clear hw2
  go_loopg [5, 6] (d + 1) (fun f av bv wr => ∃ x y k : Nat, av = .int .i64 (x : Int) ∧ bv = .int .i64 (y : Int) ∧ y < f ∧ x ≤ 2147483648 ∧ y ≤ 2147483648 ∧ Hid (Nat.gcd x y = Nat.gcd N d) ∧ wr = w2.drewN k)
  case atStart => exact ⟨N, d, 0, rfl, by rw [hd0], by omega, by omega, by omega, Lib.hid rfl, rfl⟩
  obtain ⟨x, y, k, rfl, rfl, hyf, hx, hy, HG, rfl⟩ := hrel
  by_cases hy0 : y = 0
  · subst hy0
    have hxg : x = g := by rw [hg, ← HG.out, Nat.gcd_zero_right]
    subst hxg
    clear hn hd hd0 hx hy hyf HG hg hmax hneg
    have KR2 := Lib.hid (KR0.out.drewN k)
    have HB2 := Lib.hid ((Keeps.of_below HB0.out (fun _ => False)).drewN k).to_below
    clear KR0 HB0
    obtain ⟨w3, hw3⟩ : ∃ w3, w3 = w2.drewN k := ⟨_, rfl⟩
    rw [← hw3] at KR2 HB2 ⊢
    clear hw3
    go_wp2_with fail
    have hx0 : ¬ x = 0 := by omega
    have wn2 := HWN.out
    have wd2 := HWD.out
    refine wp_region_last (n := 9) (fun _ => True) _ (by kernel_rfl) (by kernel_rfl) (by simp only [offLast]; exact rfl) trivial ?_
    have kr := KR2.out.drewN 1
    have hb3 := ((Keeps.of_below HB2.out (fun _ => False)).drewN 1).to_below
    change Blk w3.drew _ _ _ at kr
    change Below _ _ w3.drew at hb3
    refine HW.take 0 (v := ?_) rfl (by kernel_rfl) (by kernel_rfl) (by kernel_rfl) (fun _ _ _ h => h) (by kernel_rfl) ?_ ?_; rotate_left 1; (focus (intro W hW; (try dsimp only at hW); go_split_ands; first | (go_simp; done) | (go_simp; with_reducible rfl))); simp only [Act.put, List.setIfInBounds_toArray, List.set_cons_zero, List.set_cons_succ]
    refine HW.take 1 (v := ?_) rfl (by kernel_rfl) (by kernel_rfl) (by kernel_rfl) (fun _ _ _ h => h) (by kernel_rfl) ?_ ?_; rotate_left 1; (focus (intro W hW; (try dsimp only at hW); go_split_ands; first | (go_simp; done) | (go_simp; with_reducible rfl))); simp only [Act.put, List.setIfInBounds_toArray, List.set_cons_zero, List.set_cons_succ]
    refine HW.take 2 (v := ?_) rfl (by kernel_rfl) (by kernel_rfl) (by kernel_rfl) (fun _ _ _ h => h) (by kernel_rfl) ?_ ?_; rotate_left 1; (focus (intro W hW; (try dsimp only at hW); go_split_ands; first | (go_simp; done) | (go_simp; with_reducible rfl))); simp only [Act.put, List.setIfInBounds_toArray, List.set_cons_zero, List.set_cons_succ]
    refine HW.take 4 (v := ?_) rfl (by kernel_rfl) (by kernel_rfl) (by kernel_rfl) (fun _ _ _ h => h) (by kernel_rfl) ?_ ?_; rotate_left 1; (focus (intro W hW; (try dsimp only at hW); go_split_ands; first | (go_simp; done) | (go_simp; with_reducible rfl))); simp only [Act.put, List.setIfInBounds_toArray, List.set_cons_zero, List.set_cons_succ]
    refine HW.take 5 (v := ?_) rfl (by kernel_rfl) (by kernel_rfl) (by kernel_rfl) (fun _ _ _ h => h) (by kernel_rfl) ?_ ?_; rotate_left 1; (focus (intro W hW; (try dsimp only at hW); go_split_ands; first | (go_simp; done) | (go_simp; with_reducible rfl))); simp only [Act.put, List.setIfInBounds_toArray, List.set_cons_zero, List.set_cons_succ]
    refine HW.take 6 (v := ?_) rfl (by kernel_rfl) (by kernel_rfl) (by kernel_rfl) (fun _ _ _ h => h) (by kernel_rfl) ?_ ?_; rotate_left 1; (focus (intro W hW; (try dsimp only at hW); go_split_ands; first | (go_simp; done) | (go_simp; with_reducible rfl))); simp only [Act.put, List.setIfInBounds_toArray, List.set_cons_zero, List.set_cons_succ]
    refine HW.only 3 rfl (by kernel_rfl) (by kernel_rfl) (fun K hK => Or.inl ?_)
    go_simp
    refine (HI1.out _ hb3).mono ?_
    rintro e w4 ⟨rfl, hb4⟩
    have kr4 := kr.below hb4 kr.lt
    dsimp only
    refine hK _ _ trivial ?_
    clear hK K
    refine HW.only 7 rfl (by kernel_rfl) (by kernel_rfl) (fun K hK => Or.inl ?_)
    go_simp
    refine (HI2.out _ (hb3.trans (hb4.mono hb3.size))).mono ?_
    rintro e w5 ⟨rfl, hb5⟩
    have hb25 := hb4.trans (hb5.mono hb4.size)
    have KR5 := kr.below hb25 kr.lt
    have e0 := KR5.cell 0
    have e1 := KR5.cell 1
    have f0 := KR5.frozen 0
    have f1 := KR5.frozen 1
    simp only [List.getElem?_toArray, List.getElem?_cons_zero, List.getElem?_cons_succ] at e0 e1
    dsimp only
    refine hK _ _ trivial ?_
    clear hK K
    refine HW.take 8 (v := ?_) rfl (by kernel_rfl) (by kernel_rfl) (by kernel_rfl) (fun _ _ _ h => h) (by kernel_rfl) ?_ ?_; rotate_left 1; (focus (intro W hW; (try dsimp only at hW); go_split_ands; first | (go_simp; done) | (go_simp; with_reducible rfl))); simp only [Act.put, List.setIfInBounds_toArray, List.set_cons_zero, List.set_cons_succ]
    refine HW.skip 9 rfl (by kernel_rfl) (by kernel_rfl) (by kernel_rfl) (fun _ _ _ h => h) (by kernel_rfl) ?_
    refine HW.last (by kernel_rfl) rfl (fun K hK => ?_)
    go_simp
    refine hK _ _ ?_
    have KR6 := Lib.hid KR5
    have HBE := Lib.hid (hb3.trans (hb25.mono hb3.size))
    go_wp2_with fail
    refine bodyPost_ret (v := .agg #[.string sn, .string sd]) ?_ ?_ ?_
    · exact res_cell (p := 4) (ty := 27) (fn := Tryz.f20) rfl _ _ (w.heap.size) 27 #[.string sn, .string sd] _ rfl (blk2' w5 _ 27 _ _ _ _ KR6.out) Tryz.underlying27 rfl rat_size
    · rfl
    exact ⟨rfl, ((Keeps.of_below HBE.out (fun _ => False)).trans (keeps2' w5 (w.heap.size) _ _) (fun i hi h => by omega)).to_below⟩
  · have hy1 : ¬ (y : Int) = 0 := by omega
    have hyy : ((y : Int) != 0) = true := by simpa using hy0
    have htm : (x : Int).tmod (y : Int) = ((x % y : Nat) : Int) := by rw [Int.tmod_eq_emod_of_nonneg (by omega)]; rfl
    have hlt : x % y < y := Nat.mod_lt _ (by omega)
    have HG2 : Hid (Nat.gcd y (x % y) = Nat.gcd N d) := Lib.hid (by rw [← HG.out, Nat.gcd_comm y, ← Nat.gcd_rec, Nat.gcd_comm])
    obtain ⟨z, hz⟩ : ∃ z, z = x % y := ⟨_, rfl⟩
    rw [← hz] at htm hlt HG2
    have hwz : wrap64 (z : Int) = z := IntWalk.wrap64_in _ ⟨by omega, by omega⟩
    have HLT := Lib.hid hlt
    clear hz HG hmax hneg hd0 hlt hg hgx en1 ed1 wn1 wd1
    go_wp2_with fail
    go_quiet (fail)
    go_wp2_with fail
    have hlt := HLT.out
    go_roundg (gk - 1)
    case measure => omega
    case rel => exact ⟨y, z, k + nq, rfl, rfl, by omega, hy, by omega, HG2, World.drewN_drewN _ _ _⟩
end Go.Proofs.YtempdomhbfokmaaGreatDoor

namespace Go.Proofs.YtempdomhbfokmaaGreatDoor
open Go.RowKit

theorem mk_szS : Sz (mkRat 2 4) 100000 := by
  have e : ∀ m : Nat, m ≤ 4 → (ofN m).length ≤ 10 := fun m h => Nat.le_trans (ofN_length_mono _ _ h) (ofN_length_le _ _ (by decide))
  exact Sz.le (Sz_mk false 2 4 10 (by decide) (e 2 (by decide)) (e 4 (by decide))) (by decide)
theorem ratV_half : ratV (mkRat 2 4) = .agg #[.string ⟨#[49]⟩, .string ⟨#[50]⟩] := by
  have h1 : (mkRat 2 4).num = 1 := by decide +kernel
  have h2 : (mkRat 2 4).den = 2 := by decide +kernel
  unfold ratV
  rw [← itoaB_num, h1, h2]
  unfold itoaB decB Lib.itoa
  rw [if_neg (by decide), Lib.decDigits_one (by decide), Lib.decDigits_one (by decide)]
  rfl
theorem make_half (w : World) (htb : Tb w) : Calls Tryz.prog 25 #[.int .i64 2, .int .i64 4] w fun e w' => e = .returned (.tuple #[.agg #[.string ⟨#[49]⟩, .string ⟨#[50]⟩], .int .i64 0]) ∧ Below w.heap.size w w' := by
  have h := make_any w 2 4 (mkRat 2 4) (by decide) (by decide) (by decide) (Rat.mkRat_eq_div _ _).symm (mk_szS) htb
  rw [ratV_half] at h
  exact h
end Go.Proofs.YtempdomhbfokmaaGreatDoor

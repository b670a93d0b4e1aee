/- weftmake.Reduced: the number n / d. The methods of Stream: each returns some number of its range, moves the stream's place, and keeps all else. Conditions: none beside the stream's own form. -/
import Derived.Test.YtempdomhbfokmaaGreatDoorNf20
import Derived.Test.YtempdomhbfokmaaGreatDoorNf21
import Derived.Test.YtempdomhbfokmaaGreatDoorRows
import Derived.Test.YtempdomhbfokmaaGreatDoorNf2
namespace Go.Proofs.YtempdomhbfokmaaGreatDoor
open Go.RowKit

def itoaB (n : Int) : ByteArray := ⟨(Lib.itoa n).toArray⟩
theorem itoaB_num (q : Rat) : itoaB q.num = numB q := by
  unfold itoaB numB Lib.itoa ngN
  by_cases h : q.num < 0
  · rw [if_pos h, decide_eq_true h, if_pos rfl]
    unfold decB
    apply ByteArray.ext
    simp
  · rw [if_neg h, decide_eq_false h, if_neg (by simp)]
    unfold decB
    congr 3
    omega
theorem itoaB_nat (n : Nat) : itoaB (n : Int) = decB n := by
  unfold itoaB Lib.itoa decB
  rw [if_neg (by omega)]
  rfl
theorem itoa_any (w : World) (n : Int) (h0 : -9223372036854775808 ≤ n) (h1 : n ≤ 9223372036854775807) (htb : Tb w) :
    Calls Tryz.prog 40 #[.int .i64 n] w fun e w' => e = .returned (.string (itoaB n)) ∧ Below w.heap.size w w' :=
  (Tryz.strconv_Itoa n h0 h1 w htb).mono fun e w' ⟨h, k, os, hw⟩ => ⟨h, by rw [hw]; exact (((Keeps.of_below (Below.refl w.heap.size w) (fun _ => False)).drewN k).to_below).trans (below_grow (w.drewN k) os)⟩
/-- n / d in lowest terms -/
theorem red_parts (n : Int) (N d : Nat) (hd : 0 < d) (hN : n.natAbs = N) : (mkRat n d).num = n.tdiv (Nat.gcd N d : Nat) ∧ ((mkRat n d).den : Int) = (d : Int).tdiv (Nat.gcd N d : Nat) := by
  subst hN
  have e : mkRat n d = Rat.normalize n d (by omega) := by rw [Rat.mkRat_def, dif_neg (by omega)]
  rw [e, Rat.normalize_eq]
  have hdv : ((Nat.gcd n.natAbs d : Nat) : Int) ∣ n := by
    have h := Nat.gcd_dvd_left n.natAbs d
    exact Int.ofNat_dvd_left.2 h
  exact ⟨(Int.tdiv_eq_ediv_of_dvd hdv).symm, by rw [Int.tdiv_eq_ediv_of_nonneg (by omega)]; rfl⟩
set_option maxRecDepth 100000 in
set_option maxHeartbeats 8000000 in
theorem reduced_int (w : World) (n : Int) (d : Nat) (hn : -2147483648 ≤ n ∧ n ≤ 2147483648) (hd : 1 ≤ d ∧ d ≤ 2147483648) (htb : Tb w) :
    Calls Tryz.prog 20 #[.int .i64 n, .int .i64 d] w fun e w' => e = .returned (ratV (mkRat n d)) ∧ Below w.heap.size w w' := by
  obtain ⟨N, hN⟩ : ∃ N, N = n.natAbs := ⟨_, rfl⟩
  obtain ⟨q1, q2⟩ := red_parts n N d (by omega) hN.symm
  unfold ratV
  rw [← itoaB_num, ← itoaB_nat, q1, q2]
  clear q1 q2
  have hmax : max n (-n) = (N : Int) := by omega
  have hneg : wrap64 (-n) = -n := IntWalk.wrap64_in _ ⟨by omega, by omega⟩
  have HTB := Lib.hid htb
  obtain ⟨d0, hd0⟩ : ∃ d0 : Int, d0 = d := ⟨_, rfl⟩
  rw [← hd0]
  obtain ⟨g, hg⟩ : ∃ g, g = Nat.gcd N d := ⟨_, rfl⟩
  rw [← hg]
  have hg0 : g ≠ 0 := by
    have := Nat.gcd_pos_of_pos_right N (show 0 < d by omega)
    omega
  have hgx : ¬ (g : Int) = 0 := by omega
  have hn1 : (n.tdiv (g : Int)).natAbs ≤ n.natAbs := by
    rw [Int.natAbs_tdiv]
    exact Nat.div_le_self _ _
  have hd1 : ((d0.tdiv (g : Int))).natAbs ≤ d0.natAbs := by
    rw [Int.natAbs_tdiv]
    exact Nat.div_le_self _ _
  obtain ⟨n1, en1⟩ : ∃ n1, n1 = n.tdiv (g : Int) := ⟨_, rfl⟩
  obtain ⟨d1, ed1⟩ : ∃ d1, d1 = d0.tdiv (g : Int) := ⟨_, rfl⟩
  rw [← en1] at hn1
  rw [← ed1] at hd1
  have hn2 : -2147483648 ≤ n1 ∧ n1 ≤ 2147483648 := by omega
  have hd2 : -2147483648 ≤ d1 ∧ d1 ≤ 2147483648 := by omega
  have wn1 : wrap64 n1 = n1 := IntWalk.wrap64_in _ ⟨by omega, by omega⟩
  have HWN : Hid (IntKind.i64.wrap n1 = n1) := Lib.hid <| IntWalk.i64_in _ ⟨by omega, by omega⟩
  have HWD : Hid (IntKind.i64.wrap d1 = d1) := Lib.hid <| IntWalk.i64_in _ ⟨by omega, by omega⟩
  have wd1 : wrap64 d1 = d1 := IntWalk.wrap64_in _ ⟨by omega, by omega⟩
  have HI1 : Hid (∀ W, Below w.heap.size w W → Calls Tryz.prog 40 #[.int .i64 n1] W fun e w' => e = .returned (.string (itoaB n1)) ∧ Below W.heap.size W w') := Lib.hid fun W hW => itoa_any W n1 (by omega) (by omega) (HTB.out.below hW)
  have HI2 : Hid (∀ W, Below w.heap.size w W → Calls Tryz.prog 40 #[.int .i64 d1] W fun e w' => e = .returned (.string (itoaB d1)) ∧ Below W.heap.size W w') := Lib.hid fun W hW => itoa_any W d1 (by omega) (by omega) (HTB.out.below hW)
  rw [← en1, ← ed1]
  replace en1 := en1.symm
  replace ed1 := ed1.symm
  generalize itoaB n1 = sn at *
  generalize itoaB d1 = sd at *
  clear htb hN hn1 hd1 hn2 hd2 hg0 HTB
  go_enter Tryz.func20, Tryz.ntmps20
  go_wp2_with fail
  have KR0 := Lib.hid (Blk.new w 27 #[.string ⟨#[]⟩, .string ⟨#[]⟩])
  have HB0 := Lib.hid ((Below.refl w.heap.size w).alloc (Nat.le_refl _) (.cells #[.string ⟨#[]⟩, .string ⟨#[]⟩] 27))
  obtain ⟨w2, hw2⟩ : ∃ w2, w2 = w.alloc (.cells #[.string ⟨#[]⟩, .string ⟨#[]⟩] 27) := ⟨_, rfl⟩
  rw [← hw2] at KR0 HB0 ⊢
  clear hw2
  go_loopg [5, 6] (d + 1) (fun f av bv wr => ∃ x y k : Nat, av = .int .i64 (x : Int) ∧ bv = .int .i64 (y : Int) ∧ y < f ∧ x ≤ 2147483648 ∧ y ≤ 2147483648 ∧ Hid (Nat.gcd x y = Nat.gcd N d) ∧ wr = w2.drewN k)
  case atStart => exact ⟨N, d, 0, rfl, by rw [hd0], by omega, by omega, by omega, Lib.hid rfl, rfl⟩
  obtain ⟨x, y, k, rfl, rfl, hyf, hx, hy, HG, rfl⟩ := hrel
  by_cases hy0 : y = 0
  · subst hy0
    have hxg : x = g := by rw [hg, ← HG.out, Nat.gcd_zero_right]
    subst hxg
    clear hn hd hd0 hx hy hyf HG hg hmax hneg
    have KR2 := Lib.hid (KR0.out.drewN k)
    have HB2 := Lib.hid ((Keeps.of_below HB0.out (fun _ => False)).drewN k).to_below
    clear KR0 HB0
    obtain ⟨w3, hw3⟩ : ∃ w3, w3 = w2.drewN k := ⟨_, rfl⟩
    rw [← hw3] at KR2 HB2 ⊢
    clear hw3
    go_wp2_with fail
    have hx0 : ¬ x = 0 := by omega
    have wn2 := HWN.out
    have wd2 := HWD.out
    refine wp_region_last (n := 9) (fun _ => True) _ (by kernel_rfl) (by kernel_rfl) (by simp only [offLast]; exact rfl) trivial ?_
    have kr := KR2.out.drewN 1
    have hb3 := ((Keeps.of_below HB2.out (fun _ => False)).drewN 1).to_below
    change Blk w3.drew _ _ _ at kr
    change Below _ _ w3.drew at hb3
    refine HW.take 0 (v := ?_) rfl (by kernel_rfl) (by kernel_rfl) (by kernel_rfl) (fun _ _ _ h => h) (by kernel_rfl) ?_ ?_; rotate_left 1; (focus (intro W hW; (try dsimp only at hW); go_split_ands; first | (go_simp; done) | (go_simp; with_reducible rfl))); simp only [Act.put, List.setIfInBounds_toArray, List.set_cons_zero, List.set_cons_succ]
    refine HW.take 1 (v := ?_) rfl (by kernel_rfl) (by kernel_rfl) (by kernel_rfl) (fun _ _ _ h => h) (by kernel_rfl) ?_ ?_; rotate_left 1; (focus (intro W hW; (try dsimp only at hW); go_split_ands; first | (go_simp; done) | (go_simp; with_reducible rfl))); simp only [Act.put, List.setIfInBounds_toArray, List.set_cons_zero, List.set_cons_succ]
    refine HW.take 2 (v := ?_) rfl (by kernel_rfl) (by kernel_rfl) (by kernel_rfl) (fun _ _ _ h => h) (by kernel_rfl) ?_ ?_; rotate_left 1; (focus (intro W hW; (try dsimp only at hW); go_split_ands; first | (go_simp; done) | (go_simp; with_reducible rfl))); simp only [Act.put, List.setIfInBounds_toArray, List.set_cons_zero, List.set_cons_succ]
    refine HW.take 4 (v := ?_) rfl (by kernel_rfl) (by kernel_rfl) (by kernel_rfl) (fun _ _ _ h => h) (by kernel_rfl) ?_ ?_; rotate_left 1; (focus (intro W hW; (try dsimp only at hW); go_split_ands; first | (go_simp; done) | (go_simp; with_reducible rfl))); simp only [Act.put, List.setIfInBounds_toArray, List.set_cons_zero, List.set_cons_succ]
    refine HW.take 5 (v := ?_) rfl (by kernel_rfl) (by kernel_rfl) (by kernel_rfl) (fun _ _ _ h => h) (by kernel_rfl) ?_ ?_; rotate_left 1; (focus (intro W hW; (try dsimp only at hW); go_split_ands; first | (go_simp; done) | (go_simp; with_reducible rfl))); simp only [Act.put, List.setIfInBounds_toArray, List.set_cons_zero, List.set_cons_succ]
    refine HW.take 6 (v := ?_) rfl (by kernel_rfl) (by kernel_rfl) (by kernel_rfl) (fun _ _ _ h => h) (by kernel_rfl) ?_ ?_; rotate_left 1; (focus (intro W hW; (try dsimp only at hW); go_split_ands; first | (go_simp; done) | (go_simp; with_reducible rfl))); simp only [Act.put, List.setIfInBounds_toArray, List.set_cons_zero, List.set_cons_succ]
    refine HW.only 3 rfl (by kernel_rfl) (by kernel_rfl) (fun K hK => Or.inl ?_)
    go_simp
    refine (HI1.out _ hb3).mono ?_
    rintro e w4 ⟨rfl, hb4⟩
    have kr4 := kr.below hb4 kr.lt
    dsimp only
    refine hK _ _ trivial ?_
    clear hK K
    refine HW.only 7 rfl (by kernel_rfl) (by kernel_rfl) (fun K hK => Or.inl ?_)
    go_simp
    refine (HI2.out _ (hb3.trans (hb4.mono hb3.size))).mono ?_
    rintro e w5 ⟨rfl, hb5⟩
    have hb25 := hb4.trans (hb5.mono hb4.size)
    have KR5 := kr.below hb25 kr.lt
    have e0 := KR5.cell 0
    have e1 := KR5.cell 1
    have f0 := KR5.frozen 0
    have f1 := KR5.frozen 1
    simp only [List.getElem?_toArray, List.getElem?_cons_zero, List.getElem?_cons_succ] at e0 e1
    dsimp only
    refine hK _ _ trivial ?_
    clear hK K
    refine HW.take 8 (v := ?_) rfl (by kernel_rfl) (by kernel_rfl) (by kernel_rfl) (fun _ _ _ h => h) (by kernel_rfl) ?_ ?_; rotate_left 1; (focus (intro W hW; (try dsimp only at hW); go_split_ands; first | (go_simp; done) | (go_simp; with_reducible rfl))); simp only [Act.put, List.setIfInBounds_toArray, List.set_cons_zero, List.set_cons_succ]
    refine HW.skip 9 rfl (by kernel_rfl) (by kernel_rfl) (by kernel_rfl) (fun _ _ _ h => h) (by kernel_rfl) ?_
    refine HW.last (by kernel_rfl) rfl (fun K hK => ?_)
    go_simp
    refine hK _ _ ?_
    have KR6 := Lib.hid KR5
    have HBE := Lib.hid (hb3.trans (hb25.mono hb3.size))
    go_wp2_with fail
    refine bodyPost_ret (v := .agg #[.string sn, .string sd]) ?_ ?_ ?_
    · exact res_cell (p := 4) (ty := 27) (fn := Tryz.f20) rfl _ _ (w.heap.size) 27 #[.string sn, .string sd] _ rfl (blk2' w5 _ 27 _ _ _ _ KR6.out) Tryz.underlying27 rfl rat_size
    · rfl
    exact ⟨rfl, ((Keeps.of_below HBE.out (fun _ => False)).trans (keeps2' w5 (w.heap.size) _ _) (fun i hi h => by omega)).to_below⟩
  · have hy1 : ¬ (y : Int) = 0 := by omega
    have hyy : ((y : Int) != 0) = true := by simpa using hy0
    have htm : (x : Int).tmod (y : Int) = ((x % y : Nat) : Int) := by rw [Int.tmod_eq_emod_of_nonneg (by omega)]; rfl
    have hlt : x % y < y := Nat.mod_lt _ (by omega)
    have HG2 : Hid (Nat.gcd y (x % y) = Nat.gcd N d) := Lib.hid (by rw [← HG.out, Nat.gcd_comm y, ← Nat.gcd_rec, Nat.gcd_comm])
    obtain ⟨z, hz⟩ : ∃ z, z = x % y := ⟨_, rfl⟩
    rw [← hz] at htm hlt HG2
    have hwz : wrap64 (z : Int) = z := IntWalk.wrap64_in _ ⟨by omega, by omega⟩
    have HLT := Lib.hid hlt
    clear hz HG hmax hneg hd0 hlt hg hgx en1 ed1 wn1 wd1
    go_wp2_with fail
    go_quiet (fail)
    go_wp2_with fail
    have hlt := HLT.out
    go_roundg (gk - 1)
    case measure => omega
    case rel => exact ⟨y, z, k + nq, rfl, rfl, by omega, hy, by omega, HG2, World.drewN_drewN _ _ _⟩
end Go.Proofs.YtempdomhbfokmaaGreatDoor

namespace Go.Proofs.YtempdomhbfokmaaGreatDoor
open Go.RowKit

/-- 'weftmake.Below' as a function. -/
def belowF (x n : Int) : Int := if n < 1 then 0 else if x.tmod n < 0 then x.tmod n + n else x.tmod n
theorem belowF_range (x n : Int) : 0 ≤ belowF x n ∧ (1 ≤ n → belowF x n < n) ∧ (n < 1 → belowF x n = 0) := by
  unfold belowF
  by_cases h : n < 1
  · rw [if_pos h]; exact ⟨Int.le_refl 0, fun h1 => by omega, fun _ => rfl⟩
  · rw [if_neg h]
    have h1 := Int.tmod_lt_of_pos x (show 0 < n by omega)
    have h2 : -n < x.tmod n := by
      have h3 := Int.tmod_lt_of_pos (-x) (show 0 < n by omega)
      rw [Int.neg_tmod] at h3
      omega
    split <;> exact ⟨by omega, fun _ => by omega, fun h4 => by omega⟩

set_option maxHeartbeats 400000 in
theorem below_any (x n : Int) (w : World) (hn : -9223372036854775808 ≤ n ∧ n ≤ 9223372036854775807) :
    Calls Tryz.prog 31 #[.int .i64 x, .int .i64 n] w fun e w' => e = .returned (.int .i64 (belowF x n)) ∧ w = w' := by
  go_enter Tryz.func31, Tryz.ntmps31
  go_wp2
  · go_ret
    exact ⟨by unfold belowF; rw [if_pos (by assumption)]; rfl, rfl⟩
  · go_ret
    have h1 : 1 ≤ n := by assumption
    have h2 : x.tmod n < 0 := by assumption
    refine ⟨?_, rfl⟩
    unfold belowF
    rw [if_neg (by omega), if_pos h2]
    have h3 := Int.tmod_lt_of_pos (-x) (show 0 < n by omega)
    rw [Int.neg_tmod] at h3
    show Ending.returned (.int .i64 (wrap64 _)) = _
    rw [IntWalk.wrap64_in _ ⟨by omega, by omega⟩]
  · go_ret
    have h1 : 1 ≤ n := by assumption
    have h2 : 0 ≤ x.tmod n := by assumption
    exact ⟨by unfold belowF; rw [if_neg (by omega), if_neg (by omega)]; rfl, rfl⟩

/-- The stream at block p: its list reads as l, its place is a. -/
structure Str (w : World) (p : Nat) (A : Option Addr) (n c : Nat) (l : List Int) (a : Int) : Prop where
  blk : Blk w p 25 #[.slice A n c, .int .i64 a]
  reads : Reads w (· ≠ p) 1 A n (ints l)
  wf : ∀ x ∈ l, -9223372036854775808 ≤ x ∧ x ≤ 9223372036854775807
  len : n ≤ 9223372036854775807
  at0 : 0 ≤ a

section
variable {w w' : World} {p : Nat} {A : Option Addr} {n c : Nat} {l : List Int} {a : Int}
theorem Str.keeps {S : Nat → Prop} (h : Str w p A n c l a) (hk : Keeps S w w') (hp : ¬ S p) (hs : ∀ ad, A = some ad → ¬ S ad.block) : Str w' p A n c l a := by
  refine ⟨hk.blk h.blk hp, ?_, h.wf, h.len, h.at0⟩
  refine ⟨h.reads.1, fun hn => ?_⟩
  obtain ⟨ad, e, hb, ht, hc⟩ := h.reads.2 hn
  exact ⟨ad, e, Nat.lt_of_lt_of_le hb hk.size, ht, fun j u hu => (hk.cell (by rw [block_of_add]; exact hb) (by rw [block_of_add]; exact hs ad e)).trans (hc j u hu)⟩
theorem Str.fresh (h : Str w p A n c l a) (hk : Below w.heap.size w w') : Str w' p A n c l a :=
  ⟨(hk.block p h.blk.lt).trans h.blk, h.reads.fresh hk, h.wf, h.len, h.at0⟩
theorem Str.set (h : Str w p A n c l a) (a' : Int) (h0 : 0 ≤ a') : Str (w.setCell ⟨p, 1, none⟩ (.int .i64 a')) p A n c l a' :=
  ⟨h.blk.set_ 1 _, h.reads.setCell (fun h => h rfl) _, h.wf, h.len, h0⟩
theorem Str.drew (h : Str w p A n c l a) : Str w.drew p A n c l a := ⟨h.blk.drew, h.reads.drew, h.wf, h.len, h.at0⟩
theorem Str.drewN (h : Str w p A n c l a) (k : Nat) : Str (w.drewN k) p A n c l a := ⟨h.blk.drewN k, h.reads.drewN k, h.wf, h.len, h.at0⟩
theorem Str.alloc (h : Str w p A n c l a) (o : Obj) : Str (w.alloc o) p A n c l a := ⟨h.blk.alloc o, h.reads.alloc o, h.wf, h.len, h.at0⟩
theorem Str.setFar (h : Str w p A n c l a) {q : Addr} (hq : w.heap.size ≤ q.block) (u : Value) : Str (w.setCell q u) p A n c l a := by
  have := h.blk.lt
  refine ⟨h.blk.far (by omega) u, ?_, h.wf, h.len, h.at0⟩
  exact h.reads.keep (by simp [World.setCell]) fun r hr _ => World.cell?_setCell_other w q r u (fun e => by subst e; omega)
end

/-- What a method of the stream leaves: some number with a property, the stream moved on by at most m places, all else kept. -/
def StrPost (w : World) (p : Nat) (A : Option Addr) (n c : Nat) (l : List Int) (a m : Int) (R : Int → Prop) (e : Ending) (w' : World) : Prop :=
  ∃ v a', e = .returned (.int .i64 v) ∧ R v ∧ a ≤ a' ∧ a' ≤ a + m ∧ Str w' p A n c l a' ∧ Keeps (· = p) w w'

set_option maxHeartbeats 400000 in
theorem next_any (w : World) (p : Nat) (A : Option Addr) (n c : Nat) (l : List Int) (a m : Int) (h : Str w p A n c l a) (ha : a ≤ 1000000000) (hm : -9223372036854775808 ≤ m ∧ m ≤ 9223372036854775807) :
    Calls Tryz.prog 14 #[.pointer (some ⟨p, 0, none⟩), .int .i64 m] w (StrPost w p A n c l a 1 fun v => 0 ≤ v ∧ (1 ≤ m → v < m) ∧ (m < 1 → v = 0)) := by
  have c0 := h.blk.cell 0
  have c1 := h.blk.cell 1
  have f1 := h.blk.frozen 1
  have a0 := h.at0
  have hl := h.len
  by_cases hn : n = 0
  · subst hn
    go_enter Tryz.func14, Tryz.ntmps14
    go_wp2_with (go_at_call 31; refine (below_any _ _ _ hm).mono ?_; rintro e w' ⟨rfl, rfl⟩)
    go_ret
    exact ⟨_, a + 1, rfl, belowF_range _ m, by omega, by omega, h.set _ (by omega), Keeps.setCell (Keeps.refl (· = p) w) (fun _ => rfl) _⟩
  · have e1 : a % n < n := Int.emod_lt_of_pos a (show (0 : Int) < n by omega)
    have e0 : 0 ≤ a % n := Int.emod_nonneg a (show (n : Int) ≠ 0 by omega)
    obtain ⟨ad, u, rfl, hb, ht, hu, hc⟩ := h.reads.at_ (k := (a % n).toNat) (by omega)
    have hll : (a % n).toNat < l.length := by have := h.reads.1; simp [ints] at this; omega
    have hw := h.wf _ (List.getElem_mem hll)
    rw [ints_get l _ hll] at hu
    obtain ⟨x, hx⟩ : ∃ x, x = l[(a % n).toNat] := ⟨_, rfl⟩
    rw [← hx] at hu hw
    injection hu with hu
    subst hu
    clear hx
    have hc1 : (w.setCell ⟨p, 1, none⟩ (.int .i64 (a + 1))).cell? (ad.add (a % n).toNat) = some (.int .i64 x) := by
      rw [World.cell?_setCell_other _ _ _ _ (fun e => by have := congrArg Addr.block e; rw [block_of_add] at this; exact ht this.symm)]
      exact hc
    clear hc ht
    go_enter Tryz.func14, Tryz.ntmps14
    go_wp2_with fail
    go_quiet (fail)
    go_wp2_with fail
    go_quiet (fail)
    go_wp2_with fail
    refine (below_any _ _ _ (by omega)).mono ?_
    rintro e w' ⟨rfl, rfl⟩
    go_wp2_with fail
    refine (below_any _ _ _ hm).mono ?_
    rintro e w' ⟨rfl, rfl⟩
    go_wp2_with fail
    go_ret
    exact ⟨_, a + 1, rfl, belowF_range _ m, by omega, by omega, (h.set _ (by omega)).drewN _, (Keeps.setCell (Keeps.refl (· = p) w) (fun _ => rfl) _).drewN _⟩

set_option maxHeartbeats 400000 in
theorem range_any (w : World) (p : Nat) (A : Option Addr) (n c : Nat) (l : List Int) (a lo hi : Int) (h : Str w p A n c l a) (ha : a ≤ 1000000000)
    (h1 : -1000000000000 ≤ lo) (h2 : lo ≤ hi) (h3 : hi ≤ 1000000000000) :
    Calls Tryz.prog 12 #[.pointer (some ⟨p, 0, none⟩), .int .i64 lo, .int .i64 hi] w (StrPost w p A n c l a 1 fun v => lo ≤ v ∧ v ≤ hi) := by
  go_enter Tryz.func12, Tryz.ntmps12
  go_wp2_with fail
  refine (next_any w p A n c l a _ h ha (by omega)).mono ?_
  rintro e w' ⟨v, a', rfl, ⟨r1, r2, r3⟩, g1, g2, hs, hk⟩
  have r4 := r2 (by omega)
  clear r2 r3
  go_wp2_with fail
  go_ret
  exact ⟨_, a', rfl, ⟨by omega, by omega⟩, g1, g2, hs, hk⟩

set_option maxHeartbeats 400000 in
theorem flip_any (w : World) (p : Nat) (A : Option Addr) (n c : Nat) (l : List Int) (a m : Int) (h : Str w p A n c l a) (ha : a ≤ 1000000000) (hm : -9223372036854775808 ≤ m ∧ m ≤ 9223372036854775807) :
    Calls Tryz.prog 29 #[.pointer (some ⟨p, 0, none⟩), .int .i64 m] w fun e w' => ∃ b a', e = .returned (.bool b) ∧ a ≤ a' ∧ a' ≤ a + 1 ∧ Str w' p A n c l a' ∧ Keeps (· = p) w w' := by
  go_enter Tryz.func29, Tryz.ntmps29
  go_wp2_with fail
  refine (next_any w p A n c l a _ h ha hm).mono ?_
  rintro e w' ⟨v, a', rfl, ⟨r1, r2, r3⟩, g1, g2, hs, hk⟩
  clear r2 r3
  go_wp2_with fail
  go_ret
  exact ⟨_, a', rfl, g1, g2, hs, hk⟩

set_option maxHeartbeats 400000 in
theorem pick_any (w : World) (p : Nat) (A : Option Addr) (n c : Nat) (l : List Int) (a : Int) (h : Str w p A n c l a) (ha : a ≤ 1000000000)
    (C : Addr) (k cap : Nat) (xs : List Int) (T : Nat → Prop) (hx : Reads w T 1 (some C) k (ints xs)) (hT : ¬ T p) (hk0 : 0 < k) (hk1 : k ≤ 1000000) :
    Calls Tryz.prog 18 #[.pointer (some ⟨p, 0, none⟩), .slice (some C) k cap] w (StrPost w p A n c l a 1 fun v => v ∈ xs) := by
  go_enter Tryz.func18, Tryz.ntmps18
  go_wp2_with fail
  refine (next_any w p A n c l a _ h ha (by omega)).mono ?_
  rintro e w' ⟨v, a', rfl, ⟨r1, r2, r3⟩, g1, g2, hs, hk⟩
  have r4 := r2 (by omega)
  clear r2 r3
  have hx' := hx.keeps hk (fun i hi => by rintro rfl; exact hT hi)
  obtain ⟨v, rfl⟩ := Int.eq_ofNat_of_zero_le r1
  obtain ⟨ad, u, he, _, _, hu, hc⟩ := hx'.at_ (k := v) (by omega)
  injection he with he
  subst he
  have hv : v < xs.length := by have := hx.1; simp [ints] at this; omega
  rw [ints_get xs _ hv] at hu
  have hmem := List.getElem_mem hv
  injection hu with hu
  rw [← hu] at hc
  obtain ⟨y, hy⟩ : ∃ y, y = xs[v] := ⟨_, rfl⟩
  rw [← hy] at hc hmem
  clear hy hu
  go_wp2_with fail
  go_ret
  exact ⟨_, a', rfl, hmem, g1, g2, hs, hk⟩

set_option maxHeartbeats 400000 in
theorem word_any (w : World) (p : Nat) (A : Option Addr) (n c : Nat) (l : List Int) (a : Int) (h : Str w p A n c l a) (ha : a ≤ 900000000) :
    Calls Tryz.prog 13 #[.pointer (some ⟨p, 0, none⟩)] w (StrPost w p A n c l a 3 fun v => -2147483648 ≤ v ∧ v ≤ 2147483647) := by
  go_enter Tryz.func13, Tryz.ntmps13
  go_wp2_with fail
  refine (next_any w p A n c l a _ h (by omega) (by omega)).mono ?_
  rintro e w' ⟨v, a', rfl, ⟨r1, r2, r3⟩, g1, g2, hs, hk⟩
  clear r2 r3
  go_wp2_with fail
  · refine (next_any _ p A n c l a' _ hs (by omega) (by omega)).mono ?_
    rintro e w2 ⟨v2, a2, rfl, ⟨q1, q2, q3⟩, k1, k2, hs2, hk2⟩
    have q4 := q2 (by omega)
    clear q2 q3
    go_wp2_with fail
    go_ret
    exact ⟨_, a2, rfl, ⟨by omega, by omega⟩, by omega, by omega, hs2, hk.tr hk2⟩
  · refine (next_any _ p A n c l a' _ hs (by omega) (by omega)).mono ?_
    rintro e w2 ⟨v2, a2, rfl, ⟨q1, q2, q3⟩, k1, k2, hs2, hk2⟩
    have q4 := q2 (by omega)
    clear q2 q3
    go_wp2_with fail
    go_ret
    exact ⟨_, a2, rfl, ⟨by omega, by omega⟩, by omega, by omega, hs2, hk.tr hk2⟩
  · refine (next_any _ p A n c l a' _ hs (by omega) (by omega)).mono ?_
    rintro e w2 ⟨v2, a2, rfl, ⟨q1, q2, q3⟩, k1, k2, hs2, hk2⟩
    have q4 := q2 (by omega)
    clear q2 q3
    go_wp2_with fail
    refine (next_any _ p A n c l a2 _ hs2 (by omega) (by omega)).mono ?_
    rintro e w3 ⟨v3, a3, rfl, ⟨u1, u2, u3⟩, l1, l2, hs3, hk3⟩
    have u4 := u2 (by omega)
    clear u2 u3
    go_wp2_with fail
    go_ret
    exact ⟨_, a3, rfl, ⟨by omega, by omega⟩, by omega, by omega, hs3, (hk.tr hk2).tr hk3⟩
  · refine (range_any _ p A n c l a' _ _ hs (by omega) (by omega) (by omega) (by omega)).mono ?_
    rintro e w2 ⟨v2, a2, rfl, ⟨q1, q2⟩, k1, k2, hs2, hk2⟩
    go_wp2_with fail
    go_ret
    exact ⟨_, a2, rfl, ⟨by omega, by omega⟩, by omega, by omega, hs2, hk.tr hk2⟩

end Go.Proofs.YtempdomhbfokmaaGreatDoor

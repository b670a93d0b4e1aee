/- codec.Source: one byte. codec.Source: a number. Conditions: what was written by Writer.Number. sealed, body. -/
import Derived.Test.YtmlfgokbcafbkaaGreatDoorTk9
import Derived.Test.YtmlfgokbcafbkaaGreatDoorRows
import Derived.RegionTactic
import Derived.Deep.RegionWith
import Derived.Test.YtmlfgokbcafbkaaGreatDoorTk7
namespace Go.Proofs.YtmlfgokbcafbkaaGreatDoor
open Go.RowKit

/-- A source at p; its bytes lie in blocks of R. -/
def Src (w : World) (R : Nat → Prop) (p : Nat) (xs : List Int) : Prop :=
  ∃ A n c, Blk w p 119 #[.slice A n c] ∧ Reads w R 1 A n (bytes xs) ∧ n ≤ c ∧ c ≤ maxLen ∧ ¬ R p
theorem Src.keeps {w w' : World} {R S : Nat → Prop} {p : Nat} {xs : List Int} (h : Src w R p xs) (hk : Keeps S w w') (hp : ¬ S p) (hs : ∀ i, R i → ¬ S i) : Src w' R p xs := by
  obtain ⟨A, n, c, h1, h2, h3⟩ := h
  exact ⟨A, n, c, hk.blk h1 hp, h2.keeps hk hs, h3⟩
theorem Src.lt {w : World} {R : Nat → Prop} {p : Nat} {xs : List Int} (h : Src w R p xs) : p < w.heap.size := by
  obtain ⟨A, n, c, h1, -⟩ := h
  exact h1.lt
theorem bytes_drop1 (x : Int) (xs : List Int) : (bytes (x :: xs)).drop (1 * 1) = bytes xs := by simp [bytes]
set_option maxRecDepth 100000 in
set_option maxHeartbeats 1000000 in
theorem byte_any (w : World) (R : Nat → Prop) (p : Nat) (x : Int) (xs : List Int) (h : Src w R p (x :: xs)) :
    Calls Tryz.prog 76 #[.pointer (some ⟨p, 0, none⟩)] w fun e w' => e = .returned (.int .u8 x) ∧ Src w' R p xs ∧ Keeps (· = p) w w' := by
  obtain ⟨A, n, c, hb, hr, hnc, hc, hR⟩ := h
  have hl := hr.1
  rw [bytes_length] at hl
  simp only [List.length_cons, Nat.mul_one] at hl
  obtain ⟨ad, u, rfl, hbz, hRb, hu, hcell⟩ := hr.at_ (k := 0) (by omega)
  have hx0 : u = .int .u8 x := by simpa [bytes] using hu.symm
  subst hx0
  rw [show ad.add 0 = ad by simp [Addr.add]] at hcell
  have c0 := hb.cell 0
  have f0 := hb.frozen 0
  have hcut := hr.cut (k := 1) (cap := c) (by omega) hnc
  rw [bytes_drop1] at hcut
  have n0 : 0 < n := by omega
  by_cases h1 : c = 1
  · rw [if_pos h1] at hcut
    have HCUT := Lib.hid hcut
    have HB := Lib.hid hb
    clear hcut hr hb hu
    subst h1
    obtain rfl : n = 1 := by omega
    go_enter Tryz.func76, Tryz.ntmps76
    go_wp2_with fail
    go_ret
    exact ⟨rfl, ⟨_, 0, 0, HB.out.set_ 0 _, HCUT.out.setCell hR _, Nat.le_refl _, Nat.zero_le _, hR⟩, Keeps.setCell (Keeps.refl (· = p) w) (fun _ => rfl) _⟩
  · rw [if_neg h1, Option.map_some, Nat.mul_one, show ad.add 1 = { block := ad.block, off := ad.off + 1 } from rfl] at hcut
    have HCUT := Lib.hid hcut
    have HB := Lib.hid hb
    have h2 : 1 < c := by omega
    clear hcut hr hb hu h1
    go_enter Tryz.func76, Tryz.ntmps76
    go_wp2_with fail
    go_ret
    refine ⟨rfl, ⟨_, n - 1, c - 1, ?_, HCUT.out.setCell hR _, by omega, by omega, hR⟩, Keeps.setCell (Keeps.refl (· = p) w) (fun _ => rfl) _⟩
    have := HB.out.set_ 0 (.slice (some { block := ad.block, off := ad.off + 1 }) (n - 1) (c - 1))
    exact this
end Go.Proofs.YtmlfgokbcafbkaaGreatDoor

namespace Go.Proofs.YtmlfgokbcafbkaaGreatDoor
open Go.RowKit

set_option maxRecDepth 100000 in
set_option maxHeartbeats 1000000 in
theorem number_s (w : World) (R : Nat → Prop) (p : Nat) (n : Int) (rest : List Int) (h : Src w R p (numF n ++ rest)) (hn : -2147483648 ≤ n ∧ n ≤ 2147483647) :
    Calls Tryz.prog 56 #[.pointer (some ⟨p, 0, none⟩)] w fun e w' => e = .returned (.int .i64 n) ∧ Src w' R p rest ∧ Keeps (· = p) w w' := by
  have HZ : Hid (zigF n < 4294967296 ∧ zagF (zigF n) = n) := ⟨zig_lt n hn, zag_zig n⟩
  unfold numF at h
  generalize zigF n = z at *
  obtain ⟨n1, n2⟩ := hn
  have HS := Lib.hid h
  clear h
  go_enter Tryz.func56, Tryz.ntmps56
  go_wp2_with fail
  go_loopw [3, 4] (fun u i wr => ∃ k : Nat, k ≤ 4 ∧ i = .int .i64 k ∧ u = .int .i64 ((z % 128 ^ k : Nat) : Int) ∧ Hid (k = 0 ∨ 1 ≤ z / 128 ^ k) ∧ Src wr R p (varF (10 - k) (z / 128 ^ k) ++ rest) ∧ Keeps (· = p) w wr) (fun _ i _ => 5 - (intOf i).toNat)
  case atStart => exact ⟨0, by omega, rfl, by simp [Nat.mod_one], Or.inl rfl, by simpa using HS.out, Keeps.refl _ _⟩
  clear HS
  obtain ⟨k, hk, rfl, rfl, HQ, hs, hkp⟩ := hrel
  have HK := Lib.hid hkp
  obtain ⟨q, hq⟩ : ∃ q, q = z / 128 ^ k := ⟨_, rfl⟩
  obtain ⟨r, hr⟩ : ∃ r, r = z % 128 ^ k := ⟨_, rfl⟩
  have hrk : r < 128 ^ k := by rw [hr]; exact Nat.mod_lt _ (Nat.pow_pos (by omega))
  have hz : z = r + q * 128 ^ k := by rw [hr, hq, Nat.mul_comm]; exact (Nat.mod_add_div _ _).symm
  rw [← hq] at hs HQ
  rw [← hr]
  have hqz : q < 4294967296 := by rw [hq]; exact Nat.lt_of_le_of_lt (Nat.div_le_self _ _) HZ.out.1
  have hq4 : k = 4 → q < 16 := by rintro rfl; have := HZ.out.1; rw [hq]; have : (128 : Nat) ^ 4 = 268435456 := rfl; omega
  by_cases hlt : q < 128
  · rw [varF_last _ _ hlt] at hs
    have HB := Lib.hid (byte_any wr R p _ _ hs)
    have e0 : (q : Int) % 256 = q := by omega
    rw [e0] at HB
    have hor := or_seven r q k hk hrk hlt
    rw [← hz] at hor
    have hand : bits .and .u8 (q : Int) 127 = q := (bits_and127 (q : Int) (by omega)).trans (by omega)
    have hq0 : k = 0 ∨ 1 ≤ q := HQ.out
    have hlt' : (q : Int) < 128 := by omega
    obtain ⟨D, hD⟩ : ∃ D, D = z / 2 := ⟨_, rfl⟩
    have hzz := HZ.out.1
    have hD1 : (z : Int).tdiv 2 = (D : Int) := by rw [Int.tdiv_eq_ediv_of_nonneg (by omega), hD]; omega
    have hD2 : (z : Int).tmod 2 = ((z % 2 : Nat) : Int) := by rw [Int.tmod_eq_emod_of_nonneg (by omega)]; omega
    have hDz : D < 2147483648 := by omega
    have hk0 : (0 : Int) ≤ k := by omega
    have hk4 : (k : Int) ≤ 4 := by omega
    have hzag := HZ.out.2
    unfold zagF at hzag
    have hnz : (z % 2 = 1 ∧ n = -(D : Int) - 1) ∨ (z % 2 = 0 ∧ n = (D : Int)) := by
      rw [hD, ← hzag]
      split <;> omega
    have hqk : (q = 0 ∧ k = 0) ∨ (1 ≤ q ∧ ¬ (q : Int) = 0) := by omega
    have hz00 : q = 0 ∧ k = 0 → z = 0 ∧ r = 0 := by
      rintro ⟨rfl, rfl⟩
      rw [Nat.pow_zero] at hrk
      omega
    have HZ0 := Lib.hid hz00
    have HORR := Lib.hid hor
    have HAND := Lib.hid hand
    clear hz00 hq hr hz hs hkp HQ hq4 hqz e0 hrk hlt hq0 hzag hD hzz HZ hor hand
    have key : ∀ b : Bool, (1 ≤ q ∧ ¬ (q : Int) = 0 ∨ k = 0) → True := fun _ _ => trivial
    clear key
    rcases hqk with ⟨rfl, rfl⟩ | ⟨hq1, hq2⟩
    · obtain ⟨rfl, rfl⟩ := HZ0.out ⟨rfl, rfl⟩
      have hD0 : D = 0 := by simp at hD1; omega
      subst hD0
      obtain ⟨-, rfl⟩ : 0 % 2 = 0 ∧ n = ((0 : Nat) : Int) := by
        rcases hnz with ⟨h, -⟩ | h
        · cases h
        · exact h
      have hand : bits .and .u8 0 127 = 0 := by simpa using HAND.out
      have hor : bits .or .i64 0 0 = 0 := by decide
      clear HAND HORR hD1 hD2 hnz HZ0
      go_wp2_with fail
      refine HB.out.mono ?_
      rintro e w1 ⟨rfl, hs1, hk1⟩
      have HS1 := Lib.hid hs1
      have HK1 := Lib.hid (HK.out.tr hk1)
      clear hs1 hk1
      go_wp2_with fail
      trace_state
      go_ret
      exact ⟨rfl, HS1.out, HK1.out⟩
    · rcases hnz with ⟨hm, rfl⟩ | ⟨hm, rfl⟩
      · rw [hm] at hD2
        go_wp2_with fail
        refine HB.out.mono ?_
        rintro e w1 ⟨rfl, hs1, hk1⟩
        have HS1 := Lib.hid hs1
        have HK1 := Lib.hid (HK.out.tr hk1)
        clear hs1 hk1
        have hand := HAND.out
        have hor := HORR.out
        go_wp2_with fail
        go_ret
        exact ⟨rfl, HS1.out, HK1.out⟩
      · rw [hm] at hD2
        go_wp2_with fail
        refine HB.out.mono ?_
        rintro e w1 ⟨rfl, hs1, hk1⟩
        have HS1 := Lib.hid hs1
        have HK1 := Lib.hid (HK.out.tr hk1)
        clear hs1 hk1
        have hand := HAND.out
        have hor := HORR.out
        go_wp2_with fail
        go_ret
        exact ⟨rfl, HS1.out, HK1.out⟩
  · rw [show 10 - k = (9 - k) + 1 by omega, varF_head _ _ hlt] at hs
    have HB := Lib.hid (byte_any wr R p _ _ hs)
    have e1 : (128 : Nat) ^ (k + 1) = 128 ^ k * 128 := Nat.pow_succ ..
    have ez : z / 128 ^ (k + 1) = q / 128 := by rw [e1, ← Nat.div_div_eq_div_mul, hq]
    have em : z % 128 ^ (k + 1) = r + (q % 128) * 128 ^ k := by
      rw [e1, Nat.mod_mul, hr, hq, Nat.mul_comm (128 ^ k)]
    have hc : q % 128 < 128 := Nat.mod_lt _ (by omega)
    have hor := or_seven r (q % 128) k hk hrk hc
    rw [← em] at hor
    have hand : bits .and .u8 (((q % 128 : Nat) : Int) + 128) 127 = ((q % 128 : Nat) : Int) := (bits_and127 _ (by omega)).trans (by omega)
    have hk3 : k < 4 := by
      rcases Nat.lt_or_ge k 4 with h | h
      · exact h
      · have := hq4 (by omega); omega
    have hge : 1 ≤ q / 128 := by omega
    have HEZ := Lib.hid ez
    have HGE := Lib.hid hge
    have HEM := Lib.hid em
    generalize q % 128 = c at *
    obtain ⟨u, hu⟩ : ∃ u, u = z % 128 ^ (k + 1) := ⟨_, rfl⟩
    rw [← hu] at hor
    have HU := Lib.hid hu
    have hcc : (c : Int) < 128 := by omega
    have hkk : ¬ (k : Int) = 4 := by omega
    have hk0 : (0 : Int) ≤ k := by omega
    have hk4 : (k : Int) ≤ 4 := by omega
    have HAND := Lib.hid hand
    have HORR := Lib.hid hor
    clear hq hr hz hs hkp HQ hq4 hqz hrk hlt e1 ez em hge hand hor hu
    go_wp2_with fail
    refine HB.out.mono ?_
    rintro e w1 ⟨rfl, hs1, hk1⟩
    have HS1 := Lib.hid hs1
    have HK1 := Lib.hid (HK.out.tr hk1)
    clear hs1 hk1
    have hand := HAND.out
    have hor := HORR.out
    go_wp2_with fail
    trace_state
    go_roundw
    case rel => exact ⟨k + 1, by omega, by go_num, by rw [HU.out], Or.inr (by rw [HEZ.out]; exact HGE.out), by
      rw [HEZ.out, show 10 - (k + 1) = 9 - k by omega]; exact HS1.out, HK1.out⟩
    case measure => simp [intOf]; omega
end Go.Proofs.YtmlfgokbcafbkaaGreatDoor

namespace Go.Proofs.YtmlfgokbcafbkaaGreatDoor
open Go.RowKit

def sealF (l : List Int) : List Int := l ++ lowF (codeF l) 4
theorem appBelow {w w' : World} {B e size : Nat} {v v' : Value} {n : Nat} {xs : List Value} (h : Appended w w' (fun g => B ≤ g) e size v v' n xs) (hB : B ≤ w.heap.size) (hv : ∀ g, v.ownBlock = some g → B ≤ g) : Own w' (fun g => B ≤ g) e size v' n xs ∧ Below B w w' :=
  ⟨h.1.more fun g _ hg => by
    rcases hg with hg | hg
    · exact hg
    · subst hg; exact hB, below_of_app (Below.refl _ _) h hB hv⟩
theorem lowF_bytes (n : Int) (k : Nat) : isBytes (lowF n k) := by
  induction k generalizing n with
  | zero => intro x hx; simp [lowF] at hx
  | succ k ih =>
    intro x hx
    rcases List.mem_cons.1 hx with rfl | h
    · omega
    · exact ih _ x h
theorem isBytes_append {a b : List Int} (ha : isBytes a) (hb : isBytes b) : isBytes (a ++ b) := fun x hx => by
  rcases List.mem_append.1 hx with h | h
  · exact ha x h
  · exact hb x h
theorem sealF_length (l : List Int) : (sealF l).length = l.length + 4 := by simp [sealF, lowF_length]
theorem sealF_bytes {l : List Int} (h : isBytes l) : isBytes (sealF l) := isBytes_append h (lowF_bytes _ _)

theorem own_lit (w : World) (T : Nat → Prop) (e : TypeId) (xs : List Value) (n : Nat) (hn : n ≤ maxLen) (hl : xs.length = n) (hT : T w.heap.size) :
    Own (w.alloc (.cells xs.toArray e)) T e 1 (.slice (some ⟨w.heap.size, 0, none⟩) n n) n xs :=
  ⟨by simpa using World.ownsRow_lit (base := 0) (size := 1) (e := e) w xs.toArray n (Nat.zero_le _) hn (by simpa using hl), fun g hg => by simp [Value.ownBlock] at hg; subst hg; exact hT⟩

/-- the body of a record -/
def bodyF (kind : Int) (l : List Int) : List Int := (kind % 256) :: l.flatMap fun n => lowF n 4
def bodyTo (kind : Int) (l : List Int) (k : Nat) : List Int := (kind % 256) :: (l.take k).flatMap fun n => lowF n 4
theorem bodyTo_succ (kind : Int) (l : List Int) (k : Nat) (h : k < l.length) : bodyTo kind l (k + 1) = bodyTo kind l k ++ lowF l[k] 4 := by
  unfold bodyTo
  rw [List.take_succ_eq_append_getElem h, List.flatMap_append]
  simp
theorem bodyTo_length (kind : Int) (l : List Int) (k : Nat) (h : k ≤ l.length) : (bodyTo kind l k).length = 1 + 4 * k := by
  induction k with
  | zero => rfl
  | succ k ih => rw [bodyTo_succ _ _ _ (by omega), List.length_append, ih (by omega), lowF_length]; omega
theorem bodyTo_full (kind : Int) (l : List Int) : bodyTo kind l l.length = bodyF kind l := by simp [bodyTo, bodyF]
theorem bodyF_length (kind : Int) (l : List Int) : (bodyF kind l).length = 1 + 4 * l.length := by rw [← bodyTo_full, bodyTo_length _ _ _ (Nat.le_refl _)]
theorem bodyF_bytes (kind : Int) (l : List Int) : isBytes (bodyF kind l) := by
  intro x hx
  rcases List.mem_cons.1 hx with rfl | h
  · omega
  · obtain ⟨n, -, h⟩ := List.mem_flatMap.1 h
    exact lowF_bytes _ _ x h

end Go.Proofs.YtmlfgokbcafbkaaGreatDoor

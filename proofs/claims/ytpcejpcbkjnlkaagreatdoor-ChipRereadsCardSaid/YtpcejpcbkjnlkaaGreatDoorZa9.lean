/- The methods of Stream: each returns some number of its range, moves the stream's place, and keeps all else. Conditions: none beside the stream's own form. -/
import Derived.Test.YtpcejpcbkjnlkaaGreatDoorProg
import GoSem.Claim
import GoSem.ClaimJoined
import GoSem.ClaimMapViews
import Derived.JoinedTies
import Derived.KernelRfl
import Derived.RowKit
import Derived.Test.YtpcejpcbkjnlkaaGreatDoorZa8
set_option linter.unusedVariables false
namespace Go.Proofs.YtpcejpcbkjnlkaaGreatDoor
open Go.RowKit

/-- 'weftmake.Below' as a function. -/
def belowF (x n : Int) : Int := if n < 1 then 0 else if x.tmod n < 0 then x.tmod n + n else x.tmod n
theorem belowF_range (x n : Int) : 0 ≤ belowF x n ∧ (1 ≤ n → belowF x n < n) ∧ (n < 1 → belowF x n = 0) := by
  unfold belowF
  by_cases h : n < 1
  · rw [if_pos h]; exact ⟨Int.le_refl 0, fun h1 => by omega, fun _ => rfl⟩
  · rw [if_neg h]
    have h1 := Int.tmod_lt_of_pos x (show 0 < n by omega)
    have h2 : -n < x.tmod n := by
      have h3 := Int.tmod_lt_of_pos (-x) (show 0 < n by omega)
      rw [Int.neg_tmod] at h3
      omega
    split <;> exact ⟨by omega, fun _ => by omega, fun h4 => by omega⟩

set_option maxHeartbeats 400000 in
theorem below_any (x n : Int) (w : World) (hn : -9223372036854775808 ≤ n ∧ n ≤ 9223372036854775807) :
    Calls Tryz.prog 32 #[.int .i64 x, .int .i64 n] w fun e w' => e = .returned (.int .i64 (belowF x n)) ∧ w = w' := by
  go_enter Tryz.func32, Tryz.ntmps32
  go_wp2
  · go_ret
    exact ⟨by unfold belowF; rw [if_pos (by assumption)]; rfl, rfl⟩
  · go_ret
    have h1 : 1 ≤ n := by assumption
    have h2 : x.tmod n < 0 := by assumption
    refine ⟨?_, rfl⟩
    unfold belowF
    rw [if_neg (by omega), if_pos h2]
    have h3 := Int.tmod_lt_of_pos (-x) (show 0 < n by omega)
    rw [Int.neg_tmod] at h3
    show Ending.returned (.int .i64 (wrap64 _)) = _
    rw [IntWalk.wrap64_in _ ⟨by omega, by omega⟩]
  · go_ret
    have h1 : 1 ≤ n := by assumption
    have h2 : 0 ≤ x.tmod n := by assumption
    exact ⟨by unfold belowF; rw [if_neg (by omega), if_neg (by omega)]; rfl, rfl⟩

/-- The stream at block p: its list reads as l, its place is a. -/
structure Str (w : World) (p : Nat) (A : Option Addr) (n c : Nat) (l : List Int) (a : Int) : Prop where
  blk : Blk w p 25 #[.slice A n c, .int .i64 a]
  reads : Reads w (· ≠ p) 1 A n (ints l)
  wf : ∀ x ∈ l, -9223372036854775808 ≤ x ∧ x ≤ 9223372036854775807
  len : n ≤ 9223372036854775807
  at0 : 0 ≤ a

section
variable {w w' : World} {p : Nat} {A : Option Addr} {n c : Nat} {l : List Int} {a : Int}
theorem Str.keeps {S : Nat → Prop} (h : Str w p A n c l a) (hk : Keeps S w w') (hp : ¬ S p) (hs : ∀ ad, A = some ad → ¬ S ad.block) : Str w' p A n c l a := by
  refine ⟨hk.blk h.blk hp, ?_, h.wf, h.len, h.at0⟩
  refine ⟨h.reads.1, fun hn => ?_⟩
  obtain ⟨ad, e, hb, ht, hc⟩ := h.reads.2 hn
  exact ⟨ad, e, Nat.lt_of_lt_of_le hb hk.size, ht, fun j u hu => (hk.cell (by rw [block_of_add]; exact hb) (by rw [block_of_add]; exact hs ad e)).trans (hc j u hu)⟩
theorem Str.fresh (h : Str w p A n c l a) (hk : Below w.heap.size w w') : Str w' p A n c l a :=
  ⟨(hk.block p h.blk.lt).trans h.blk, h.reads.fresh hk, h.wf, h.len, h.at0⟩
theorem Str.set (h : Str w p A n c l a) (a' : Int) (h0 : 0 ≤ a') : Str (w.setCell ⟨p, 1, none⟩ (.int .i64 a')) p A n c l a' :=
  ⟨h.blk.set_ 1 _, h.reads.setCell (fun h => h rfl) _, h.wf, h.len, h0⟩
theorem Str.drew (h : Str w p A n c l a) : Str w.drew p A n c l a := ⟨h.blk.drew, h.reads.drew, h.wf, h.len, h.at0⟩
theorem Str.drewN (h : Str w p A n c l a) (k : Nat) : Str (w.drewN k) p A n c l a := ⟨h.blk.drewN k, h.reads.drewN k, h.wf, h.len, h.at0⟩
theorem Str.alloc (h : Str w p A n c l a) (o : Obj) : Str (w.alloc o) p A n c l a := ⟨h.blk.alloc o, h.reads.alloc o, h.wf, h.len, h.at0⟩
theorem Str.setFar (h : Str w p A n c l a) {q : Addr} (hq : w.heap.size ≤ q.block) (u : Value) : Str (w.setCell q u) p A n c l a := by
  have := h.blk.lt
  refine ⟨h.blk.far (by omega) u, ?_, h.wf, h.len, h.at0⟩
  exact h.reads.keep (by simp [World.setCell]) fun r hr _ => World.cell?_setCell_other w q r u (fun e => by subst e; omega)
end

/-- What a method of the stream leaves: some number with a property, the stream moved on by at most m places, all else kept. -/
def StrPost (w : World) (p : Nat) (A : Option Addr) (n c : Nat) (l : List Int) (a m : Int) (R : Int → Prop) (e : Ending) (w' : World) : Prop :=
  ∃ v a', e = .returned (.int .i64 v) ∧ R v ∧ a ≤ a' ∧ a' ≤ a + m ∧ Str w' p A n c l a' ∧ Keeps (· = p) w w'

set_option maxHeartbeats 400000 in
theorem next_any (w : World) (p : Nat) (A : Option Addr) (n c : Nat) (l : List Int) (a m : Int) (h : Str w p A n c l a) (ha : a ≤ 1000000000) (hm : -9223372036854775808 ≤ m ∧ m ≤ 9223372036854775807) :
    Calls Tryz.prog 15 #[.pointer (some ⟨p, 0, none⟩), .int .i64 m] w (StrPost w p A n c l a 1 fun v => 0 ≤ v ∧ (1 ≤ m → v < m) ∧ (m < 1 → v = 0)) := by
  have c0 := h.blk.cell 0
  have c1 := h.blk.cell 1
  have f1 := h.blk.frozen 1
  have a0 := h.at0
  have hl := h.len
  by_cases hn : n = 0
  · subst hn
    go_enter Tryz.func15, Tryz.ntmps15
    go_wp2_with (go_at_call 32; refine (below_any _ _ _ hm).mono ?_; rintro e w' ⟨rfl, rfl⟩)
    go_ret
    exact ⟨_, a + 1, rfl, belowF_range _ m, by omega, by omega, h.set _ (by omega), Keeps.setCell (Keeps.refl (· = p) w) (fun _ => rfl) _⟩
  · have e1 : a % n < n := Int.emod_lt_of_pos a (show (0 : Int) < n by omega)
    have e0 : 0 ≤ a % n := Int.emod_nonneg a (show (n : Int) ≠ 0 by omega)
    obtain ⟨ad, u, rfl, hb, ht, hu, hc⟩ := h.reads.at_ (k := (a % n).toNat) (by omega)
    have hll : (a % n).toNat < l.length := by have := h.reads.1; simp [ints] at this; omega
    have hw := h.wf _ (List.getElem_mem hll)
    rw [ints_get l _ hll] at hu
    obtain ⟨x, hx⟩ : ∃ x, x = l[(a % n).toNat] := ⟨_, rfl⟩
    rw [← hx] at hu hw
    injection hu with hu
    subst hu
    clear hx
    have hc1 : (w.setCell ⟨p, 1, none⟩ (.int .i64 (a + 1))).cell? (ad.add (a % n).toNat) = some (.int .i64 x) := by
      rw [World.cell?_setCell_other _ _ _ _ (fun e => by have := congrArg Addr.block e; rw [block_of_add] at this; exact ht this.symm)]
      exact hc
    clear hc ht
    go_enter Tryz.func15, Tryz.ntmps15
    go_wp2_with fail
    go_quiet (fail)
    go_wp2_with fail
    go_quiet (fail)
    go_wp2_with fail
    refine (below_any _ _ _ (by omega)).mono ?_
    rintro e w' ⟨rfl, rfl⟩
    go_wp2_with fail
    refine (below_any _ _ _ hm).mono ?_
    rintro e w' ⟨rfl, rfl⟩
    go_wp2_with fail
    go_ret
    exact ⟨_, a + 1, rfl, belowF_range _ m, by omega, by omega, (h.set _ (by omega)).drewN _, (Keeps.setCell (Keeps.refl (· = p) w) (fun _ => rfl) _).drewN _⟩

set_option maxHeartbeats 400000 in
theorem range_any (w : World) (p : Nat) (A : Option Addr) (n c : Nat) (l : List Int) (a lo hi : Int) (h : Str w p A n c l a) (ha : a ≤ 1000000000)
    (h1 : -1000000000000 ≤ lo) (h2 : lo ≤ hi) (h3 : hi ≤ 1000000000000) :
    Calls Tryz.prog 6 #[.pointer (some ⟨p, 0, none⟩), .int .i64 lo, .int .i64 hi] w (StrPost w p A n c l a 1 fun v => lo ≤ v ∧ v ≤ hi) := by
  go_enter Tryz.func6, Tryz.ntmps6
  go_wp2_with fail
  refine (next_any w p A n c l a _ h ha (by omega)).mono ?_
  rintro e w' ⟨v, a', rfl, ⟨r1, r2, r3⟩, g1, g2, hs, hk⟩
  have r4 := r2 (by omega)
  clear r2 r3
  go_wp2_with fail
  go_ret
  exact ⟨_, a', rfl, ⟨by omega, by omega⟩, g1, g2, hs, hk⟩

set_option maxHeartbeats 400000 in
theorem flip_any (w : World) (p : Nat) (A : Option Addr) (n c : Nat) (l : List Int) (a m : Int) (h : Str w p A n c l a) (ha : a ≤ 1000000000) (hm : -9223372036854775808 ≤ m ∧ m ≤ 9223372036854775807) :
    Calls Tryz.prog 14 #[.pointer (some ⟨p, 0, none⟩), .int .i64 m] w fun e w' => ∃ b a', e = .returned (.bool b) ∧ a ≤ a' ∧ a' ≤ a + 1 ∧ Str w' p A n c l a' ∧ Keeps (· = p) w w' := by
  go_enter Tryz.func14, Tryz.ntmps14
  go_wp2_with fail
  refine (next_any w p A n c l a _ h ha hm).mono ?_
  rintro e w' ⟨v, a', rfl, ⟨r1, r2, r3⟩, g1, g2, hs, hk⟩
  clear r2 r3
  go_wp2_with fail
  go_ret
  exact ⟨_, a', rfl, g1, g2, hs, hk⟩

set_option maxHeartbeats 400000 in
theorem pick_any (w : World) (p : Nat) (A : Option Addr) (n c : Nat) (l : List Int) (a : Int) (h : Str w p A n c l a) (ha : a ≤ 1000000000)
    (C : Addr) (k cap : Nat) (xs : List Int) (T : Nat → Prop) (hx : Reads w T 1 (some C) k (ints xs)) (hT : ¬ T p) (hk0 : 0 < k) (hk1 : k ≤ 1000000) :
    Calls Tryz.prog 16 #[.pointer (some ⟨p, 0, none⟩), .slice (some C) k cap] w (StrPost w p A n c l a 1 fun v => v ∈ xs) := by
  go_enter Tryz.func16, Tryz.ntmps16
  go_wp2_with fail
  refine (next_any w p A n c l a _ h ha (by omega)).mono ?_
  rintro e w' ⟨v, a', rfl, ⟨r1, r2, r3⟩, g1, g2, hs, hk⟩
  have r4 := r2 (by omega)
  clear r2 r3
  have hx' := hx.keeps hk (fun i hi => by rintro rfl; exact hT hi)
  obtain ⟨v, rfl⟩ := Int.eq_ofNat_of_zero_le r1
  obtain ⟨ad, u, he, _, _, hu, hc⟩ := hx'.at_ (k := v) (by omega)
  injection he with he
  subst he
  have hv : v < xs.length := by have := hx.1; simp [ints] at this; omega
  rw [ints_get xs _ hv] at hu
  have hmem := List.getElem_mem hv
  injection hu with hu
  rw [← hu] at hc
  obtain ⟨y, hy⟩ : ∃ y, y = xs[v] := ⟨_, rfl⟩
  rw [← hy] at hc hmem
  clear hy hu
  go_wp2_with fail
  go_ret
  exact ⟨_, a', rfl, hmem, g1, g2, hs, hk⟩

set_option maxHeartbeats 400000 in
theorem word_any (w : World) (p : Nat) (A : Option Addr) (n c : Nat) (l : List Int) (a : Int) (h : Str w p A n c l a) (ha : a ≤ 900000000) :
    Calls Tryz.prog 33 #[.pointer (some ⟨p, 0, none⟩)] w (StrPost w p A n c l a 3 fun v => -2147483648 ≤ v ∧ v ≤ 2147483647) := by
  go_enter Tryz.func33, Tryz.ntmps33
  go_wp2_with fail
  refine (next_any w p A n c l a _ h (by omega) (by omega)).mono ?_
  rintro e w' ⟨v, a', rfl, ⟨r1, r2, r3⟩, g1, g2, hs, hk⟩
  clear r2 r3
  go_wp2_with fail
  · refine (next_any _ p A n c l a' _ hs (by omega) (by omega)).mono ?_
    rintro e w2 ⟨v2, a2, rfl, ⟨q1, q2, q3⟩, k1, k2, hs2, hk2⟩
    have q4 := q2 (by omega)
    clear q2 q3
    go_wp2_with fail
    go_ret
    exact ⟨_, a2, rfl, ⟨by omega, by omega⟩, by omega, by omega, hs2, hk.tr hk2⟩
  · refine (next_any _ p A n c l a' _ hs (by omega) (by omega)).mono ?_
    rintro e w2 ⟨v2, a2, rfl, ⟨q1, q2, q3⟩, k1, k2, hs2, hk2⟩
    have q4 := q2 (by omega)
    clear q2 q3
    go_wp2_with fail
    go_ret
    exact ⟨_, a2, rfl, ⟨by omega, by omega⟩, by omega, by omega, hs2, hk.tr hk2⟩
  · refine (next_any _ p A n c l a' _ hs (by omega) (by omega)).mono ?_
    rintro e w2 ⟨v2, a2, rfl, ⟨q1, q2, q3⟩, k1, k2, hs2, hk2⟩
    have q4 := q2 (by omega)
    clear q2 q3
    go_wp2_with fail
    refine (next_any _ p A n c l a2 _ hs2 (by omega) (by omega)).mono ?_
    rintro e w3 ⟨v3, a3, rfl, ⟨u1, u2, u3⟩, l1, l2, hs3, hk3⟩
    have u4 := u2 (by omega)
    clear u2 u3
    go_wp2_with fail
    go_ret
    exact ⟨_, a3, rfl, ⟨by omega, by omega⟩, by omega, by omega, hs3, (hk.tr hk2).tr hk3⟩
  · refine (range_any _ p A n c l a' _ _ hs (by omega) (by omega) (by omega) (by omega)).mono ?_
    rintro e w2 ⟨v2, a2, rfl, ⟨q1, q2⟩, k1, k2, hs2, hk2⟩
    go_wp2_with fail
    go_ret
    exact ⟨_, a2, rfl, ⟨by omega, by omega⟩, by omega, by omega, hs2, hk.tr hk2⟩

end Go.Proofs.YtpcejpcbkjnlkaaGreatDoor

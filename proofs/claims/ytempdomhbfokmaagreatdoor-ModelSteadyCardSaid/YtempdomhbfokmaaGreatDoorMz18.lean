/- Stream.bytes and Stream.Order. Stream.Order. -/
import Derived.Test.YtempdomhbfokmaaGreatDoorMz17
import Derived.RegionTactic
namespace Go.Proofs.YtempdomhbfokmaaGreatDoor
open Go.RowKit

theorem Str.again' {w w' : World} {p : Nat} {A : Option Addr} {n c : Nat} {l : List Int} {a a' : Int} (h : Str w p A n c l a) (k : Keeps (· = p) w w') (hb : Blk w' p 25 #[.slice A n c, .int .i64 a']) (h0 : 0 ≤ a') : Str w' p A n c l a' :=
  ⟨hb, h.reads.keeps k (fun _ hi e => hi e), h.wf, h.len, h0⟩
theorem pick_lit' (w : World) (p : Nat) (A : Option Addr) (n c : Nat) (l : List Int) (a : Int) (h : Str w p A n c l a) (ha : a ≤ 1000000000) (xs : List Int) (k : Nat) (hk : k = xs.length) (hk0 : 0 < k) (hk1 : k ≤ 1000) (q : Nat) (hq : q = w.heap.size) (cs : Array Value) (hcs : cs = (ints xs).toArray) :
    Calls Tryz.prog 18 #[.pointer (some ⟨p, 0, none⟩), .slice (some ⟨q, 0, none⟩) k k] (w.alloc (.cells cs 3)) fun e w' => ∃ (v a' : Int), e = .returned (.int .i64 v) ∧ v ∈ xs ∧ a ≤ a' ∧ a' ≤ a + 1 ∧ Str w' p A n c l a' ∧ Keeps (· = p) w w' := by
  subst hq
  subst hcs
  have hp := h.blk.lt
  refine (pick_any _ p A n c l a (h.alloc _) ha ⟨w.heap.size, 0, none⟩ k k xs (fun g => g = w.heap.size) (reads_new w 3 xs k hk) (by omega) hk0 (by omega)).mono ?_
  rintro e w' ⟨v, a', rfl, hv, g1, g2, hs, hkp⟩
  exact ⟨v, a', rfl, hv, g1, g2, hs, ((Keeps.refl _ w).alloc _).tr hkp⟩
/-- an append onto a row above B, with the stream's block below B -/
theorem push_keeps {w W w' : World} {p B e size m n : Nat} {v v' : Value} {xs ys : List Value} {t : TypeId} {cs : Array Value} {o : Obj} (hB : B = w.heap.size) (hp : p < B) (kp : Keeps (· = p) w W) (hb : Blk W p t cs) (ho : Own W (fun g => B ≤ g) e size v n xs)
    (happ : Appended (W.alloc o) w' (fun g => B ≤ g) e size v v' m ys) : Own w' (fun g => B ≤ g) e size v' m ys ∧ Keeps (· = p) w w' ∧ Blk w' p t cs := by
  have h1 := kp.size
  obtain ⟨o1, o2⟩ := appBelow happ (by simp; omega) (fun g hg => ho.2 g hg)
  refine ⟨o1, (kp.alloc o).below o2 (fun i hi h => by omega), (hb.alloc o).below o2 hp⟩

set_option maxRecDepth 100000 in
set_option maxHeartbeats 1000000 in
theorem sbytes_any (w : World) (p : Nat) (A : Option Addr) (n c : Nat) (l : List Int) (a : Int) (h : Str w p A n c l a) (ha : a ≤ 900000) (m : Nat) (hm : m ≤ 1000) :
    Calls Tryz.prog 30 #[.pointer (some ⟨p, 0, none⟩), .int .i64 m] w fun e w' => ∃ (v : Value) (xs : List Int) (a' : Int), e = .returned v ∧ xs.length = m ∧ (∀ x ∈ xs, -128 ≤ x ∧ x ≤ 127) ∧ Own w' (fun g => w.heap.size ≤ g) 3 1 v m (ints xs) ∧ a ≤ a' ∧ a' ≤ a + 2 * m ∧ Str w' p A n c l a' ∧ Keeps (· = p) w w' := by
  obtain ⟨i0, hi0, hz0, hz1, hz2⟩ := info_parts int_info
  have hpz := h.blk.lt
  have HS := Lib.hid h
  clear h
  go_enter Tryz.func30, Tryz.ntmps30
  go_wp2_with fail
  go_loopw [5, 7] (fun v i wr => ∃ (k : Nat) (xs : List Int) (a' : Int), k ≤ m ∧ i = .int .i64 k ∧ xs.length ≤ k ∧ k ≤ xs.length ∧ (∀ x ∈ xs, -128 ≤ x ∧ x ≤ 127) ∧ Own wr (fun g => w.heap.size ≤ g) 3 1 v k (ints xs) ∧ a ≤ a' ∧ a' ≤ a + 2 * k ∧ Str wr p A n c l a' ∧ Keeps (· = p) w wr) (fun _ i _ => m - (intOf i).toNat)
  case atStart => exact ⟨0, [], a, by omega, rfl, Nat.le_refl _, Nat.le_refl _, fun x hx => (by cases hx), Own.nil_ _ _ _ _, by omega, by omega, HS.out, Keeps.refl _ _⟩
  obtain ⟨k, xs, a1, hk, rfl, hl1, hl2, hx, ho, b1, b2, hs, hkp⟩ := hrel
  have HX := Lib.hid hx
  have HO := Lib.hid ho
  have HKP := Lib.hid hkp
  have hwz := hkp.size
  have ha1 : 0 ≤ a1 := hs.at0
  clear hx ho hkp
  by_cases hlt : k < m
  · have hpw : p < wr.heap.size := by omega
    go_wp2_with fail
    refine (flip_any wr p A n c l a1 6 hs (by omega) (by omega)).mono ?_
    rintro e w1 ⟨b, a2, rfl, g1, g2, hs1, k1⟩
    have HK1 := Lib.hid (HKP.out.tr k1)
    have HO1 := Lib.hid (HO.out.keeps k1 (fun i hi e => by omega))
    clear hs k1 HO HKP
    cases b with
    | true =>
      go_wp2_with fail
      refine (pick_lit' w1 p A n c l a2 hs1 (by omega) [-128, 127] 2 rfl (by omega) (by omega) _ rfl _ rfl).mono ?_
      rintro e w2 ⟨x, a3, rfl, hx, g3, g4, hs2, k2⟩
      have hx2 : -128 ≤ x ∧ x ≤ 127 := by simp at hx; omega
      have HX2 := Lib.hid hx2
      have HK2 := Lib.hid (HK1.out.tr k2)
      have HO2 := Lib.hid (HO1.out.keeps k2 (fun i hi e => by omega))
      have HS2 := Lib.hid hs2
      clear hs1 k2 HO1 HK1 hx hx2 hs2
      go_wp2_with (at_builtin; go_must (refine wpList_append_any _ rfl _ _ 22 rfl 3 i0 _ 1 8 Tryz.underlying22 hi0 hz0 hz1 hz2 rfl (by omega) u5 _ _ rfl (HO2.out.alloc _) _ 1 1 _ rfl (reads_new _ _ [(x : Int)] 1 rfl) (ints_one _) (by unfold maxLen; omega) (by omega) ?_); intro v' w3 happ)
      obtain ⟨o1, o2, o3⟩ := push_keeps rfl hpz HK2.out HS2.out.blk HO2.out happ
      go_roundw
      case rel => exact ⟨k + 1, xs ++ [x], a3, by omega, by go_num, by simp; omega, by simp; omega, fun y hy => by
        rcases List.mem_append.1 hy with h | h
        · exact HX.out y h
        · simp at h; rw [h]; exact HX2.out, by simpa [ints] using o1, by omega, by omega, HS.out.again' o2 o3 HS2.out.at0, o2⟩
      case measure => simp [intOf]; omega
    | false =>
      go_wp2_with fail
      refine (range_any w1 p A n c l a2 (-9) 9 hs1 (by omega) (by omega) (by omega) (by omega)).mono ?_
      rintro e w2 ⟨x, a3, rfl, hx, g3, g4, hs2, k2⟩
      have hx2 : -128 ≤ x ∧ x ≤ 127 := by omega
      have HX2 := Lib.hid hx2
      have HK2 := Lib.hid (HK1.out.tr k2)
      have HO2 := Lib.hid (HO1.out.keeps k2 (fun i hi e => by omega))
      have HS2 := Lib.hid hs2
      clear hs1 k2 HO1 HK1 hx2 hs2
      go_wp2_with (at_builtin; go_must (refine wpList_append_any _ rfl _ _ 22 rfl 3 i0 _ 1 8 Tryz.underlying22 hi0 hz0 hz1 hz2 rfl (by omega) u5 _ _ rfl (HO2.out.alloc _) _ 1 1 _ rfl (reads_new _ _ [(x : Int)] 1 rfl) (ints_one _) (by unfold maxLen; omega) (by omega) ?_); intro v' w3 happ)
      obtain ⟨o1, o2, o3⟩ := push_keeps rfl hpz HK2.out HS2.out.blk HO2.out happ
      go_roundw
      case rel => exact ⟨k + 1, xs ++ [x], a3, by omega, by go_num, by simp; omega, by simp; omega, fun y hy => by
        rcases List.mem_append.1 hy with h | h
        · exact HX.out y h
        · simp at h; rw [h]; exact HX2.out, by simpa [ints] using o1, by omega, by omega, HS.out.again' o2 o3 HS2.out.at0, o2⟩
      case measure => simp [intOf]; omega
  · obtain rfl : k = m := by omega
    go_wp2_with fail
    go_ret
    exact ⟨_, xs, a1, rfl, by omega, HX.out, HO.out, b1, b2, hs, HKP.out⟩
end Go.Proofs.YtempdomhbfokmaaGreatDoor

namespace Go.Proofs.YtempdomhbfokmaaGreatDoor
open Go.RowKit

end Go.Proofs.YtempdomhbfokmaaGreatDoor

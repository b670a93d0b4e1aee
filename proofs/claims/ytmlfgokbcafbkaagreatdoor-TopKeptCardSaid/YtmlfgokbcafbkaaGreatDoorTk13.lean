/- codec.Source: a count, a list. Conditions: what was written by Writer.Number and List. -/
import Derived.Test.YtmlfgokbcafbkaaGreatDoorTk10
import Derived.Test.YtmlfgokbcafbkaaGreatDoorTk12
namespace Go.Proofs.YtmlfgokbcafbkaaGreatDoor
open Go.RowKit

set_option maxRecDepth 100000 in
set_option maxHeartbeats 1000000 in
theorem count_s (w : World) (R : Nat → Prop) (p : Nat) (n : Nat) (rest : List Int) (h : Src w R p (numF (n : Int) ++ rest)) (hn : n ≤ 2147483647) :
    Calls Tryz.prog 77 #[.pointer (some ⟨p, 0, none⟩)] w fun e w' => e = .returned (.int .i64 n) ∧ Src w' R p rest ∧ Keeps (· = p) w w' := by
  have HC := Lib.hid (number_s w R p (n : Int) rest h (by omega))
  clear h
  go_enter Tryz.func77, Tryz.ntmps77
  go_wp2_with fail
  refine HC.out.mono ?_
  rintro e w1 ⟨rfl, hs1, hk1⟩
  have HS1 := Lib.hid hs1
  have HK1 := Lib.hid hk1
  clear hs1 hk1
  go_wp2_with fail
  go_ret
  exact ⟨rfl, HS1.out, HK1.out⟩
theorem Src.below {w w' : World} {R : Nat → Prop} {p B : Nat} {xs : List Int} (h : Src w R p xs) (hb : Below B w w') (hp : p < B) (hR : ∀ g, R g → g < B) : Src w' R p xs := by
  obtain ⟨A, n, c, h1, h2, h3⟩ := h
  exact ⟨A, n, c, h1.below hb hp, h2.keep hb.size fun q _ ht => hb.cell (hR _ ht), h3⟩
theorem Src.alloc {w : World} {R : Nat → Prop} {p : Nat} {xs : List Int} (h : Src w R p xs) (o : Obj) : Src (w.alloc o) R p xs := by
  obtain ⟨A, n, c, h1, h2, h3⟩ := h
  exact ⟨A, n, c, h1.alloc o, h2.alloc o, h3⟩
/-- an append onto a row above B, with a source below B -/
theorem push_src {w W w' : World} {R : Nat → Prop} {p B e size m n : Nat} {v v' : Value} {xs ys : List Value} {zs : List Int} {o : Obj} (hB : B = w.heap.size) (hp : p < B) (hR : ∀ g, R g → g < B) (kp : Keeps (· = p) w W) (hb : Src W R p zs) (ho : Own W (fun g => B ≤ g) e size v n xs)
    (happ : Appended (W.alloc o) w' (fun g => B ≤ g) e size v v' m ys) : Own w' (fun g => B ≤ g) e size v' m ys ∧ Keeps (· = p) w w' ∧ Src w' R p zs := by
  have h1 := kp.size
  obtain ⟨o1, o2⟩ := appBelow happ (by simp; omega) (fun g hg => ho.2 g hg)
  exact ⟨o1, (kp.alloc o).below o2 (fun i hi h => by omega), (hb.alloc o).below o2 hp hR⟩
def restF (l : List Int) (k : Nat) (rest : List Int) : List Int := (l.drop k).flatMap numF ++ rest
theorem restF_step (l : List Int) (k : Nat) (rest : List Int) (h : k < l.length) : restF l k rest = numF l[k] ++ restF l (k + 1) rest := by
  unfold restF
  rw [List.drop_eq_getElem_cons h, List.flatMap_cons, List.append_assoc]
set_option maxRecDepth 100000 in
set_option maxHeartbeats 1000000 in
theorem listed_s (w : World) (R : Nat → Prop) (p : Nat) (l rest : List Int) (h : Src w R p (listF l ++ rest)) (hR0 : ∀ g, R g → g < w.heap.size) (hr : inRange (-2147483648) 2147483647 l) (hl : l.length ≤ 10000) :
    Calls Tryz.prog 57 #[.pointer (some ⟨p, 0, none⟩), .func (.func 56) #[.pointer (some ⟨p, 0, none⟩)] #[]] w fun e w' => ∃ v, e = .returned v ∧ Own w' (fun g => w.heap.size ≤ g) 3 1 v l.length (ints l) ∧ Src w' R p rest ∧ Keeps (· = p) w w' := by
  obtain ⟨i0, hi0, hz0, hz1, hz2⟩ := info_parts int_info
  have hpz := h.lt
  have h0 : Src w R p (numF (l.length : Int) ++ restF l 0 rest) := by
    unfold listF at h
    unfold restF
    rw [List.drop_zero, ← List.append_assoc]
    exact h
  have HC := Lib.hid (count_s w R p l.length _ h0 (by omega))
  have HR0 := Lib.hid hR0
  have HRG := Lib.hid hr
  obtain ⟨n, hn⟩ : ∃ n, n = l.length := ⟨_, rfl⟩
  rw [← hn] at HC
  rw [← hn]
  have HN := Lib.hid hn
  have hn4 : n ≤ 10000 := by omega
  clear h h0 hr hR0 hn hl
  go_enter Tryz.func57, Tryz.ntmps57
  go_wp2_with fail
  refine HC.out.mono ?_
  rintro e w1 ⟨rfl, hs1, hk1⟩
  have HS1 := Lib.hid hs1
  have HK1 := Lib.hid hk1
  clear hs1 hk1
  go_wp2_with fail
  go_loopw [5, 8] (fun v i wr => ∃ k : Nat, k ≤ n ∧ i = .int .i64 k ∧ Own wr (fun g => w.heap.size ≤ g) 3 1 v k (ints (l.take k)) ∧ Src wr R p (restF l k rest) ∧ Keeps (· = p) w wr) (fun _ i _ => n - (intOf i).toNat)
  case atStart => exact ⟨0, by omega, rfl, Own.nil_ _ _ _ _, HS1.out, HK1.out⟩
  clear HS1 HK1
  obtain ⟨k, hk, rfl, ho, hs, hkp⟩ := hrel
  have HO := Lib.hid ho
  have HKP := Lib.hid hkp
  have hwz := hkp.size
  by_cases hlt : k < n
  · have hkl : k < l.length := by rw [← HN.out]; exact hlt
    rw [restF_step l k rest hkl] at hs
    have hx := HRG.out _ (List.getElem_mem hkl)
    have HNX := Lib.hid (number_s wr R p l[k] _ hs ⟨by omega, by omega⟩)
    have HT := Lib.hid (List.take_succ_eq_append_getElem hkl)
    generalize l[k] = x at *
    clear ho hs hkp hx hkl
    go_wp2_with fail
    refine HNX.out.mono ?_
    rintro e w2 ⟨rfl, hs2, hk2⟩
    have HO2 := Lib.hid (HO.out.keeps hk2 (fun i hi e => by omega))
    have HS2 := Lib.hid hs2
    have HK2 := Lib.hid (HKP.out.tr hk2)
    clear hs2 hk2
    go_wp2_with (at_builtin; go_must (refine wpList_append_any _ rfl _ _ 22 rfl 3 i0 _ 1 8 Tryz.underlying22 hi0 hz0 hz1 hz2 rfl (by omega) u5 _ _ rfl (HO2.out.alloc _) _ 1 1 _ rfl (reads_new _ _ [(x : Int)] 1 rfl) (ints_one _) (by unfold maxLen; omega) (by omega) ?_); intro v' w3 happ)
    obtain ⟨o1, o2, o3⟩ := push_src rfl hpz HR0.out HK2.out HS2.out HO2.out happ
    go_roundw
    case rel => exact ⟨k + 1, by omega, by go_num, by rw [HT.out]; simpa [ints] using o1, o3, o2⟩
    case measure => simp [intOf]; omega
  · obtain rfl : k = n := by omega
    have HS := Lib.hid hs
    clear hs ho hkp
    go_wp2_with fail
    go_ret
    refine ⟨_, rfl, ?_, ?_, HKP.out⟩
    · have := HO.out
      rw [HN.out, List.take_length] at this
      rw [HN.out]
      exact this
    · have := HS.out
      unfold restF at this
      rw [HN.out, List.drop_length] at this
      simpa using this
end Go.Proofs.YtmlfgokbcafbkaaGreatDoor

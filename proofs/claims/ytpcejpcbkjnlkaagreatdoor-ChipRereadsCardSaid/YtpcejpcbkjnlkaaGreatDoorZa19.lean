/- chip: within, isWord, CheckMachine, field. -/
import Derived.Test.YtpcejpcbkjnlkaaGreatDoorZa18
set_option linter.unusedVariables false
namespace Go.Proofs.YtpcejpcbkjnlkaaGreatDoor
open Go.RowKit

def inB (n lo hi : Int) : Bool := decide (lo ≤ n) && decide (n ≤ hi)
theorem inB_yes {n lo hi : Int} (h1 : lo ≤ n) (h2 : n ≤ hi) : inB n lo hi = true := by simp [inB, h1, h2]
theorem inB_out {n lo hi : Int} (h : inB n lo hi = true) : lo ≤ n ∧ n ≤ hi := by simpa [inB] using h
set_option maxHeartbeats 400000 in
theorem cwithin_yes (n lo hi : Int) (w : World) (h1 : lo ≤ n) (h2 : n ≤ hi) :
    Calls Tryz.prog 25 #[.int .i64 n, .int .i64 lo, .int .i64 hi] w fun e w' => e = .returned (.bool true) ∧ w = w' := by
  go_enter Tryz.func25, Tryz.ntmps25
  go_wp2
  go_ret
  exact ⟨rfl, rfl⟩
set_option maxHeartbeats 400000 in
theorem cwithin_no (n lo hi : Int) (w : World) (h1 : n < lo ∨ hi < n) :
    Calls Tryz.prog 25 #[.int .i64 n, .int .i64 lo, .int .i64 hi] w fun e w' => e = .returned (.bool false) ∧ w = w' := by
  by_cases h : n < lo
  · go_enter Tryz.func25, Tryz.ntmps25
    go_wp2
    go_ret
    exact ⟨rfl, rfl⟩
  · have h2 : hi < n := by omega
    have h3 : lo ≤ n := by omega
    clear h1 h
    go_enter Tryz.func25, Tryz.ntmps25
    go_wp2
    go_ret
    exact ⟨by simp; omega, rfl⟩
theorem cwithin_any (n lo hi : Int) (w : World) : Calls Tryz.prog 25 #[.int .i64 n, .int .i64 lo, .int .i64 hi] w fun e w' => e = .returned (.bool (inB n lo hi)) ∧ w = w' := by
  by_cases h : lo ≤ n ∧ n ≤ hi
  · rw [inB_yes h.1 h.2]
    exact cwithin_yes n lo hi w h.1 h.2
  · have e : inB n lo hi = false := by
      cases hb : inB n lo hi with
      | false => rfl
      | true => exact absurd (inB_out hb) h
    rw [e]
    exact cwithin_no n lo hi w (by omega)
theorem cword_yes (n : Int) (w : World) (h1 : -2147483648 ≤ n) (h2 : n ≤ 2147483647) :
    Calls Tryz.prog 26 #[.int .i64 n] w fun e w' => e = .returned (.bool true) ∧ w = w' := by
  go_enter Tryz.func26, Tryz.ntmps26
  go_wp2_with (go_at_call 25; refine (cwithin_yes _ _ _ _ (by omega) (by omega)).mono ?_; rintro e w' ⟨rfl, rfl⟩)
  go_ret
  exact ⟨rfl, rfl⟩
def Mach.ok (m : Mach) : Bool := inB m.main 1 524288 && (inB m.banks 2 8 && (inB m.bank 256 4096 && (inB m.lanes 2 8 && inB m.queues 1 4)))
set_option maxRecDepth 100000 in
set_option maxHeartbeats 2000000 in
theorem cm_any (m : Mach) (w : World) : Calls Tryz.prog 11 #[m.val] w fun e w' => e = .returned (.int .i64 (if m.ok = true then 0 else 9)) ∧ Below w.heap.size w w' := by
  have HO : Hid (m.ok = (inB m.main 1 524288 && (inB m.banks 2 8 && (inB m.bank 256 4096 && (inB m.lanes 2 8 && inB m.queues 1 4))))) := Lib.hid rfl
  have HB : Hid (Below w.heap.size w (w.alloc (.cells #[.int .i64 m.main, .int .i64 m.banks, .int .i64 m.bank, .int .i64 m.lanes, .int .i64 m.queues] 27))) := Lib.hid ((Below.refl _ _).alloc (Nat.le_refl _) _)
  obtain ⟨res, hres⟩ : ∃ res : Int, res = (if m.ok = true then 0 else 9) := ⟨_, rfl⟩
  rw [← hres]
  have HR := Lib.hid hres
  clear hres
  unfold Mach.val Mach.cells
  go_enter Tryz.func11, Tryz.ntmps11
  go_wp2_with fail
  refine (cwithin_any m.main 1 524288 _).mono ?_
  rintro e w0 ⟨rfl, rfl⟩
  cases e0 : inB m.main 1 524288 with
  | false =>
    have E := Lib.hid e0
    go_wp2_with fail
    go_ret
    have hr := HO.out
    simp only [E.out, Bool.false_and] at hr
    exact ⟨by rw [HR.out, hr]; rfl, HB.out⟩
  | true =>
    have E0 := Lib.hid e0
    clear e0
    go_wp2_with fail
    refine (cwithin_any m.banks 2 8 _).mono ?_
    rintro e w1 ⟨rfl, rfl⟩
    cases e1 : inB m.banks 2 8 with
    | false =>
      have E := Lib.hid e1
      go_wp2_with fail
      go_ret
      have hr := HO.out
      simp only [E.out, Bool.and_false, Bool.false_and] at hr
      exact ⟨by rw [HR.out, hr]; rfl, HB.out⟩
    | true =>
      have E1 := Lib.hid e1
      clear e1
      go_wp2_with fail
      refine (cwithin_any m.bank 256 4096 _).mono ?_
      rintro e w2 ⟨rfl, rfl⟩
      cases e2 : inB m.bank 256 4096 with
      | false =>
        have E := Lib.hid e2
        go_wp2_with fail
        go_ret
        have hr := HO.out
        simp only [E.out, Bool.and_false, Bool.false_and] at hr
        exact ⟨by rw [HR.out, hr]; rfl, HB.out⟩
      | true =>
        have E2 := Lib.hid e2
        clear e2
        go_wp2_with fail
        refine (cwithin_any m.lanes 2 8 _).mono ?_
        rintro e w3 ⟨rfl, rfl⟩
        cases e3 : inB m.lanes 2 8 with
        | false =>
          have E := Lib.hid e3
          go_wp2_with fail
          go_ret
          have hr := HO.out
          simp only [E.out, Bool.and_false, Bool.false_and] at hr
          exact ⟨by rw [HR.out, hr]; rfl, HB.out⟩
        | true =>
          have E3 := Lib.hid e3
          clear e3
          go_wp2_with fail
          refine (cwithin_any m.queues 1 4 _).mono ?_
          rintro e w4 ⟨rfl, rfl⟩
          cases e4 : inB m.queues 1 4 with
          | false =>
            have E := Lib.hid e4
            go_wp2_with fail
            go_ret
            have hr := HO.out
            simp only [E.out, Bool.and_false] at hr
            exact ⟨by rw [HR.out, hr]; rfl, HB.out⟩
          | true =>
            have E4 := Lib.hid e4
            clear e4
            go_wp2_with fail
            go_ret
            have hr := HO.out
            simp only [E0.out, E1.out, E2.out, E3.out, E4.out, Bool.and_true] at hr
            exact ⟨by rw [HR.out, hr]; rfl, HB.out⟩
theorem Mach.ok_out {m : Mach} (h : m.ok = true) : (1 ≤ m.main ∧ m.main ≤ 524288) ∧ (2 ≤ m.banks ∧ m.banks ≤ 8) ∧ (256 ≤ m.bank ∧ m.bank ≤ 4096) ∧ (2 ≤ m.lanes ∧ m.lanes ≤ 8) ∧ 1 ≤ m.queues ∧ m.queues ≤ 4 := by
  simp only [Mach.ok, Bool.and_eq_true] at h
  exact ⟨inB_out h.1, inB_out h.2.1, inB_out h.2.2.1, inB_out h.2.2.2.1, inB_out h.2.2.2.2⟩
set_option maxRecDepth 100000 in
set_option maxHeartbeats 2000000 in
theorem field_any (m : Mach) (hm : m.ok = true) (kind v : Int) (hk : 0 ≤ kind ∧ kind ≤ 5) (ho : fieldOk m.banks m.queues kind v) (w : World) : Calls Tryz.prog 76 #[m.val, .int .i64 kind, .int .i64 v] w fun e w' => e = .returned (.bool true) ∧ Below w.heap.size w w' := by
  have HB : Hid (Below w.heap.size w (w.alloc (.cells #[.int .i64 m.main, .int .i64 m.banks, .int .i64 m.bank, .int .i64 m.lanes, .int .i64 m.queues] 102))) := Lib.hid ((Below.refl _ _).alloc (Nat.le_refl _) _)
  obtain ⟨-, ⟨n1, n2⟩, -, -, n3, n4⟩ := m.ok_out hm
  obtain ⟨-, o1, o2, o3, o4, o5⟩ := ho
  have w1 : IntKind.i64.wrap (m.banks - 1) = m.banks - 1 := IntWalk.i64_in _ ⟨by omega, by omega⟩
  have w2 : IntKind.i64.wrap (m.queues - 1) = m.queues - 1 := IntWalk.i64_in _ ⟨by omega, by omega⟩
  unfold Mach.val Mach.cells
  rcases (show kind = 0 ∨ kind = 1 ∨ kind = 2 ∨ kind = 3 ∨ kind = 4 ∨ kind = 5 by omega) with rfl | rfl | rfl | rfl | rfl | rfl
  · clear o1 o2 o3 o4 o5 hk
    go_enter Tryz.func76, Tryz.ntmps76
    go_wp2_with fail
    go_ret
    exact ⟨rfl, HB.out⟩
  · have hh := o1 rfl
    clear o1 o2 o3 o4 o5 hk
    go_enter Tryz.func76, Tryz.ntmps76
    go_wp2_with (go_at_call 25; refine (cwithin_yes v _ _ _ (by omega) (by omega)).mono ?_; rintro e w' ⟨rfl, rfl⟩)
    go_ret
    exact ⟨rfl, HB.out⟩
  · have hh := o2 rfl
    clear o1 o2 o3 o4 o5 hk
    go_enter Tryz.func76, Tryz.ntmps76
    go_wp2_with (go_at_call 25; refine (cwithin_yes v _ _ _ (by omega) (by omega)).mono ?_; rintro e w' ⟨rfl, rfl⟩)
    go_ret
    exact ⟨rfl, HB.out⟩
  · have hh := o3 rfl
    clear o1 o2 o3 o4 o5 hk
    go_enter Tryz.func76, Tryz.ntmps76
    go_wp2_with (go_at_call 25; refine (cwithin_yes v _ _ _ (by omega) (by omega)).mono ?_; rintro e w' ⟨rfl, rfl⟩)
    go_ret
    exact ⟨rfl, HB.out⟩
  · have hh := o4 rfl
    clear o1 o2 o3 o4 o5 hk
    go_enter Tryz.func76, Tryz.ntmps76
    go_wp2_with (go_at_call 25; refine (cwithin_yes v _ _ _ (by omega) (by omega)).mono ?_; rintro e w' ⟨rfl, rfl⟩)
    go_ret
    exact ⟨rfl, HB.out⟩
  · have hh := o5 rfl
    clear o1 o2 o3 o4 o5 hk
    go_enter Tryz.func76, Tryz.ntmps76
    go_wp2_with (go_at_call 26; refine (cword_yes v _ hh.1 hh.2).mono ?_; rintro e w' ⟨rfl, rfl⟩)
    go_ret
    exact ⟨rfl, HB.out⟩
end Go.Proofs.YtpcejpcbkjnlkaaGreatDoor

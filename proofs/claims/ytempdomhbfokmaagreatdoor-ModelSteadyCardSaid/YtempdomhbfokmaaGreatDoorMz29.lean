/- stands(): the head of the graph, the shapes of its nodes. -/
import Derived.Test.YtempdomhbfokmaaGreatDoorMz28
import Derived.Tactics
import Derived.Tactics2
import Derived.Defers
import Derived.Recover
namespace Go.Proofs.YtempdomhbfokmaaGreatDoor
open Go.RowKit

set_option maxRecDepth 100000 in
theorem head_any (w : World) (bc d3 d4 : Nat) (hc : Blk w bc 154 #[.slice none 0 0]) :
    Calls Tryz.prog 143 #[.pointer (some ⟨bc, 0, none⟩), .agg #[.string ⟨#[103]⟩, .slice none 0 0, .slice (some ⟨d3, 0, none⟩) 2 2, .slice (some ⟨d4, 0, none⟩) 1 1, .slice none 0 0], .int .i64 1] w fun e w' => e = .returned (.int .i64 0) ∧ Keeps (· = bc) w w' ∧ Blk w' bc 154 #[.slice none 0 0] := by
  have hl := hc.lt
  go_enter Tryz.func143, Tryz.ntmps143
  go_wp2_with fail
  refine (isName_yes _ nameOk_g _).mono ?_
  rintro e w1 ⟨rfl, hb1⟩
  have kc := (hc.alloc (.cells #[.string ⟨#[103]⟩, .slice none 0 0, .slice (some ⟨d3, 0, none⟩) 2 2, .slice (some ⟨d4, 0, none⟩) 1 1, .slice none 0 0] 59)).below hb1 (by simp; omega)
  have k1 := (Blk.new w 59 #[.string ⟨#[103]⟩, .slice none 0 0, .slice (some ⟨d3, 0, none⟩) 2 2, .slice (some ⟨d4, 0, none⟩) 1 1, .slice none 0 0]).below hb1 (by simp)
  have hb : Below w.heap.size w w1 := Below.trans (by go_grown) (hb1.mono (by simp))
  have z1 := k1.lt
  have c0 := k1.cell 0
  have c1 := k1.cell 1
  have c4 := k1.cell 4
  have f0 := kc.cell 0
  have f1 := kc.frozen 0
  have HB := Lib.hid hb
  have KC := Lib.hid kc
  clear hb1 k1 kc hb hc
  go_wp2_with (go_at_call 183; refine (symbols_nil _ _ _).mono ?_; rintro e w' ⟨rfl, rfl⟩)
  go_ret
  exact ⟨rfl, Keeps.setCell (p := ⟨bc, 0, none⟩) (Keeps.of_below HB.out (fun g => g = bc)) (fun _ => rfl) _, KC.out.set_ 0 _⟩
set_option maxRecDepth 100000 in
theorem broadcast_nil (w : World) (T : Nat → Prop) (sp : Value) (A : Addr) (c : Nat) (hr : Reads w T 1 (some A) 2 [.slice none 0 0, .slice none 0 0]) (hc : 2 ≤ c) :
    Calls Tryz.prog 274 #[sp, .slice (some A) 2 c] w fun e w' => e = .returned (.slice none 0 0) ∧ w = w' := by
  obtain ⟨ad, u, e, -, -, hu, h0⟩ := hr.at_ (k := 0) (by omega)
  injection e with e
  subst e
  injection hu with hu
  subst hu
  obtain ⟨ad, u, e, -, -, hu, h1⟩ := hr.at_ (k := 1) (by omega)
  injection e with e
  subst e
  injection hu with hu
  subst hu
  rw [show A.add 0 = A by simp [Addr.add]] at h0
  rw [show A.add 1 = ⟨A.block, A.off + 1, none⟩ by simp [Addr.add]] at h1
  clear hr
  go_enter Tryz.func274, Tryz.ntmps274
  go_wp2_with (go_at_call 303; refine (clone_axis_nil _).mono ?_; rintro e w' ⟨rfl, rfl⟩)
  go_loop [5, 18] (fun v i => v = .slice none 0 0 ∧ ∃ k : Nat, k ≤ 1 ∧ i = .int .i64 k) (fun _ i => 1 - (intOf i).toNat)
  case atStart => exact ⟨rfl, 0, by omega, rfl⟩
  case round =>
    obtain ⟨rfl, k, hk, rfl⟩ := hrel
    by_cases hlt : k < 1
    · obtain rfl : k = 0 := by omega
      go_wp2_with fail
      go_loop [5, 24] (fun v i => v = .slice none 0 0 ∧ i = .int .i64 0) (fun _ _ => 0)
      case atStart => exact ⟨rfl, rfl⟩
      obtain ⟨rfl, rfl⟩ := hrel
      go_wp2_with fail
      go_round
      case rel => exact ⟨rfl, 1, by omega, rfl⟩
      case measure => simp [intOf]
    · obtain rfl : k = 1 := by omega
      go_wp2_with fail
      go_ret
      exact ⟨rfl, rfl⟩
set_option maxRecDepth 100000 in
theorem shape_const (w : World) (sp : Value) (A : Addr) : Calls Tryz.prog 244 #[sp, .agg #[.int .i64 2, .slice none 0 0, .string ⟨#[]⟩, .slice none 0 0, .string ⟨#[]⟩, .slice none 0 0, .int .i64 0, .int .i64 0, .int .i64 0, .int .i64 0, .slice (some A) 1 1, .slice none 0 0], .slice none 0 0, .slice none 0 0] w fun e w' => e = .returned (.slice none 0 0) ∧ Below w.heap.size w w' := by
  go_enter Tryz.func244, Tryz.ntmps244
  go_wp2_with fail
  go_ret
  exact ⟨rfl, by go_grown⟩
set_option maxRecDepth 100000 in
theorem shape_add (w : World) (T : Nat → Prop) (sp : Value) (A B : Addr) (c : Nat) (hr : Reads w T 1 (some B) 2 [.slice none 0 0, .slice none 0 0]) (hc : 2 ≤ c) :
    Calls Tryz.prog 244 #[sp, .agg #[.int .i64 4, .slice (some A) 2 2, .string ⟨#[]⟩, .slice none 0 0, .string ⟨#[]⟩, .slice none 0 0, .int .i64 0, .int .i64 0, .int .i64 0, .int .i64 0, .slice none 0 0, .slice none 0 0], .slice (some B) 2 c, .slice none 0 0] w fun e w' => e = .returned (.slice none 0 0) ∧ Below w.heap.size w w' := by
  have HB := Lib.hid (fun o => broadcast_nil (w.alloc o) T sp B c (hr.alloc o) hc)
  obtain ⟨ad, u, e, hl, -, hu, h0⟩ := hr.at_ (k := 0) (by omega)
  injection e with e
  subst e
  injection hu with hu
  subst hu
  obtain ⟨ad, u, e, -, -, hu, h1⟩ := hr.at_ (k := 1) (by omega)
  injection e with e
  subst e
  injection hu with hu
  subst hu
  rw [show B.add 0 = B by simp [Addr.add]] at h0
  rw [show B.add 1 = ⟨B.block, B.off + 1, none⟩ by simp [Addr.add]] at h1
  clear hr
  go_enter Tryz.func244, Tryz.ntmps244
  go_wp2_with (go_at_call 274; refine (HB.out _).mono ?_; rintro e w' ⟨rfl, rfl⟩)
  go_ret
  exact ⟨rfl, by go_grown⟩
set_option maxRecDepth 100000 in
theorem shape_idle (p : Addr) (w : World) : CallsD Tryz.prog 242 #[.pointer (some p)] .returning w fun e u' w' => e = .returned (.tuple #[]) ∧ u' = .returning ∧ w' = w := by
  refine callsD_of_wpS Tryz.func242 rfl fun c₀ cs hu => ?_
  apply wpS_seq
  apply wpS_region
  simp [wpOpsS, go_sem, recoverD, hu, Tryz.ntmps242, Exit.thenS]
  refine wpS_of_wp ?_
  go_wp2_with fail
  cases c₀
  simp_all [bodyPostS, results, Tryz.results242]
end Go.Proofs.YtempdomhbfokmaaGreatDoor

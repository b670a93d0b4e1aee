/- AppendSeq of an empty sequence, laid with an empty layout, told to the evaluator. -/
import Derived.RangeFuncBox
import Derived.RangeFuncLeaves
import Derived.RangeFuncWrites
import Derived.Shelf.Abstract
import Derived.WalkKit
import Derived.OwnWalkIn
import Derived.TacticsInMore
import Derived.LoopNIn
import Derived.LoopIn
import Derived.RegionIn
import Derived.Deep.RegionHeld3
import Derived.Deep.DeepCutAuto
import Derived.Test.YtpcejpcbkjnlkaaGreatDoorZa12
import Derived.Laws.ResultCell
import Derived.Test.YtpcejpcbkjnlkaaGreatDoorProg
import GoSem.Claim
import GoSem.ClaimJoined
import GoSem.ClaimMapViews
import Derived.JoinedTies
import Derived.KernelRfl
import Derived.RowKit
import Derived.Test.YtpcejpcbkjnlkaaGreatDoorZa14
set_option linter.unusedVariables false
namespace Go.Proofs.YtpcejpcbkjnlkaaGreatDoor
open Go.RowKit Go.Shelf

/-! ### AppendSeq of an empty sequence -/
attribute [local go_sem] Oper.semAt_some
set_option maxRecDepth 100000 in
set_option maxHeartbeats 2000000 in
theorem vals_in (F : Fence) (n : Nat) (h7 : F.fn 385) (hro : F.round = none) (l Bs : Nat) (A : Option Addr) (C : Nat) (J Jx : List Unit → World → Prop)
    (W : World) (hBs : W.cell? ⟨Bs, 0, none⟩ = some (.slice A 0 C)) (h0 : J [] W) :
    CallsIn F n Tryz.prog 385 #[.func (.yield l) #[] #[], .pointer (some ⟨Bs, 0, none⟩)] W fun e W' => (∃ v, e = .returned v) ∧
      ((∃ ys, ys = [] ∧ J ys W') ∨ (∃ pre, False ∧ Jx pre W')) := by
  refine callsIn_of_wp Tryz.func385 rfl h7 ?_ hro
  simp only [Tryz.ntmps385, List.size_toArray, List.length_cons, List.length_nil, Nat.reduceAdd, Nat.reduceSub, Array.replicate_succ, Array.replicate_zero, List.push_toArray, List.append_toArray, List.nil_append, List.cons_append]
  gi_wp2
  gi_loopw [7] (fun i wr => i = .int .i64 0 ∧ wr = W) (fun _ _ => 0)
  case atStart => exact ⟨rfl, rfl⟩
  case round =>
    obtain ⟨rfl, rfl⟩ := hrel
    gi_wp2
    go_end0
    exact ⟨⟨_, rfl⟩, .inl ⟨_, rfl, h0⟩⟩
theorem vals_stops (F : Fence) (n : Nat) (h7 : F.fn 385) (hro : F.round = none) (Bs : Nat) (A : Option Addr) (C : Nat) (enc : Unit → Array Value) (Kp : World → World → Prop) (w : World) (hb : Bs < w.heap.size) (hBs : w.cell? ⟨Bs, 0, none⟩ = some (.slice A 0 C)) :
    SeqStopsK F n Tryz.prog 385 #[.pointer (some ⟨Bs, 0, none⟩)] enc Kp (fun ys => ys = []) (fun _ => False) 0 w := fun l J Jx W hW _ _ _ h0 =>
  vals_in F n h7 hro l Bs A C J Jx W ((hW.cell (p := ⟨Bs, 0, none⟩) hb).trans hBs) h0
set_option maxRecDepth 100000 in
set_option maxHeartbeats 2000000 in
theorem seq_in (F : Fence) (n : Nat) (h3 : F.fn 436) (h7 : F.fn 385) (hro : F.round = none) (hn : 3 ≤ n) (sa : Option Addr) (sl sc : Nat) (Bs : Nat) (A : Option Addr) (C : Nat) (w : World) (hb : Bs < w.heap.size) (hBs : w.cell? ⟨Bs, 0, none⟩ = some (.slice A 0 C)) :
    CallsIn F n Tryz.prog 436 #[.slice sa sl sc, .func (.func 385) #[] #[.pointer (some ⟨Bs, 0, none⟩)]] w fun e W' => e = .returned (.slice sa sl sc) ∧ Below w.heap.size w W' := by
  have h1 : 1 ≤ n := by omega
  refine callsIn_of_wp_marks Tryz.func436 rfl h3 ?_ hro
  simp only [Tryz.ntmps436, List.size_toArray, List.length_cons, List.length_nil, Nat.reduceAdd, Nat.reduceSub, Array.replicate_succ, Array.replicate_zero, List.push_toArray, List.append_toArray, List.nil_append, List.cons_append]
  gi_wp2
  have bS := Boxed.new w 69 (.slice sa sl sc)
  have hB0 : Below w.heap.size w (w.alloc (.cells #[.slice sa sl sc] 69)) := (Below.refl _ w).alloc (Nat.le_refl _) _
  refine wpIn_rangeFunc_ownG hro h1 (gf := 385) (lb := #[.pointer (some ⟨Bs, 0, none⟩)]) rfl h7 (enters_of Tryz.func385 (by kernel_rfl) rfl)
    (vals_stops F (n - 1) h7 hro Bs A C (fun _ => #[.string .empty]) (Below w.heap.size) _ (by simp; omega) ((hB0.cell (p := ⟨Bs, 0, none⟩) hb).trans hBs)) belowK_t (belowK_b (by simp)) (Below.refl _ _) (fun _ => rfl)
    (fun _ W => W.cell? ⟨w.heap.size, 0, none⟩ = some (.slice sa sl sc) ∧ Below w.heap.size w W)
    (fun _ _ _ => False)
    (OwnFrom.and (Own.from (fun s A B row hs hg hr => cell_kept hs hg hr) _) (ownFrom_below (Nat.le_refl _) (by simp)))
    (fun _ _ _ _ _ hs _ _ => hs)
    ⟨by simp, hB0⟩
    (fun _ => { tmps := #[.slice sa sl sc, .func (.func 385) #[] #[.pointer (some ⟨Bs, 0, none⟩)], .pointer (some ⟨w.heap.size, 0, none⟩), undef, .slice none 0 0, .string .empty, .func (.func 385) #[] #[.pointer (some ⟨Bs, 0, none⟩)], .string .empty, undef, undef, undef, undef, undef], defers := [] }) ?assign ?body ?done ?stop
  case assign =>
    intro l y W K hK
    gi_wp2
    exact hK
  case body =>
    intro l pre y W _ hlen
    exact absurd hlen (Nat.not_lt_zero _)
  case done =>
    rintro D ys W hD rfl ⟨hc, hB⟩ hK
    gi_wp2
    refine ⟨by simp, .inl ⟨_, _, rfl, run_takeDeferred hK, ?_⟩⟩
    exact ⟨_, results_tmp rfl _ _ _, by simp, hB.trans (belowK_b (w := w) (Nat.le_refl _) W D _ _ (by simp at hD; omega) hK rfl rfl)⟩
  case stop =>
    rintro D c pre W _ _ h _
    exact h.elim
theorem seq_any (w : World) (sa : Option Addr) (sl sc Bs : Nat) (A : Option Addr) (C : Nat) (hb : Bs < w.heap.size) (hBs : w.cell? ⟨Bs, 0, none⟩ = some (.slice A 0 C)) :
    Calls Tryz.prog 436 #[.slice sa sl sc, .func (.func 385) #[] #[.pointer (some ⟨Bs, 0, none⟩)]] w fun e W' => e = .returned (.slice sa sl sc) ∧ Below w.heap.size w W' :=
  (callsIn_wide (n := 3)).1 (seq_in Fence.wide 3 trivial trivial rfl (by omega) sa sl sc Bs A C w hb hBs)

/-! ### laid with an empty layout -/
set_option maxRecDepth 100000 in
set_option maxHeartbeats 2000000 in
theorem back_in (F : Fence) (n : Nat) (h7 : F.fn 162) (hro : F.round = none) (l Bs : Nat) (A : Option Addr) (C : Nat) (J Jx : List Unit → World → Prop)
    (W : World) (hBs : W.cell? ⟨Bs, 0, none⟩ = some (.slice A 0 C)) (h0 : J [] W) :
    CallsIn F n Tryz.prog 162 #[.func (.yield l) #[] #[], .pointer (some ⟨Bs, 0, none⟩)] W fun e W' => (∃ v, e = .returned v) ∧
      ((∃ ys, ys = [] ∧ J ys W') ∨ (∃ pre, False ∧ Jx pre W')) := by
  refine callsIn_of_wp Tryz.func162 rfl h7 ?_ hro
  simp only [Tryz.ntmps162, List.size_toArray, List.length_cons, List.length_nil, Nat.reduceAdd, Nat.reduceSub, Array.replicate_succ, Array.replicate_zero, List.push_toArray, List.append_toArray, List.nil_append, List.cons_append]
  gi_wp2
  gi_loopw [3] (fun i wr => i = .int .i64 (-1) ∧ wr = W) (fun _ _ => 0)
  case atStart => exact ⟨rfl, rfl⟩
  case round =>
    obtain ⟨rfl, rfl⟩ := hrel
    gi_wp2
    go_end0
    exact ⟨⟨_, rfl⟩, .inl ⟨_, rfl, h0⟩⟩
theorem back_stops (F : Fence) (n : Nat) (h7 : F.fn 162) (hro : F.round = none) (Bs : Nat) (A : Option Addr) (C : Nat) (enc : Unit → Array Value) (Kp : World → World → Prop) (w : World) (hb : Bs < w.heap.size) (hBs : w.cell? ⟨Bs, 0, none⟩ = some (.slice A 0 C)) :
    SeqStopsK F n Tryz.prog 162 #[.pointer (some ⟨Bs, 0, none⟩)] enc Kp (fun ys => ys = []) (fun _ => False) 0 w := fun l J Jx W hW _ _ _ h0 =>
  back_in F n h7 hro l Bs A C J Jx W ((hW.cell (p := ⟨Bs, 0, none⟩) hb).trans hBs) h0
set_option maxHeartbeats 1000000 in
theorem backward_in (F : Fence) (n : Nat) (h5 : F.fn 102) (hro : F.round = none) (a : Option Addr) (len cap : Nat) (w : World) :
    CallsIn F n Tryz.prog 102 #[.slice a len cap] w fun e w' => e = .returned (.func (.func 162) #[] #[.pointer (some ⟨w.heap.size, 0, none⟩)]) ∧ w' = w.alloc (.cells #[.slice a len cap] 69) := by
  refine callsIn_of_wp Tryz.func102 rfl h5 ?_ hro
  simp only [Tryz.ntmps102, List.size_toArray, List.length_cons, List.length_nil, Nat.reduceAdd, Nat.reduceSub, Array.replicate_succ, Array.replicate_zero, List.push_toArray, List.append_toArray, List.nil_append, List.cons_append]
  gi_wp2
  go_ret
  exact ⟨rfl, rfl⟩
theorem make_none : ∀ W : World, (Instr.makeSlice 22 (.int .i64 0) (.int .i64 0)).run Tryz.prog W = .ok (.slice (some ⟨W.heap.size, 0, none⟩) 0 0) (W.alloc (.cells #[] 3)) := by
  obtain ⟨i, hi, h0, h1, h2⟩ := info_parts int_info
  intro W
  have h := run_make (P := Tryz.prog) W 22 3 i _ Tryz.underlying22 hi h0 .i64 .i64 0 0 (by omega) (by omega) (by rw [h2]; omega) (by omega)
  rw [show (madeCells (Value.int IntKind.i64 0).cells (Int.toNat 0 * i.size)) = #[] by rw [Int.toNat_zero, Nat.zero_mul]; simp [madeCells]] at h
  exact h
def findRgD (n : Nat) : Code → Option Code
  | .region i ops d => if i = n then some (.region i ops d) else none
  | .seq a b => (findRgD n a).or (findRgD n b)
  | .cond _ a b => (findRgD n a).or (findRgD n b)
  | .block _ b | .loop b | .scope b => findRgD n b
  | _ => none
noncomputable def laidR1 : Code := (Tryz.f63.body.bind (findRgD 1)).getD .skip
set_option maxRecDepth 100000 in
set_option maxHeartbeats 400000 in
theorem laid_r1 (w : World) (B4 B8 : Nat) (b s : Int) (h4 : w.cell? ⟨B4, 0, none⟩ = some (.slice none 0 0)) {s0 s1 s9 s10 s11 s12 s13 s14 s15 s16 s17 s18 s19 s20 s21 s22 s23 s24 s25 s26 s27 s28 s29 s30 s31 s32 s33 s34 s35 s36 s37 s38 s39 s40 : Value} {s5 s6 s7 : Value} (Q : Exit → Act → World → Prop)
    (hQ : ∀ (w' : World) (g q : Nat) (y14 y15 y16 y17 y18 y19 y20 : Value), w.heap.size ≤ g → w.heap.size ≤ q → g ≠ q → w'.heap[g]? = some (.cells #[] 3 (0, 0)) → w'.heap[q]? = some (.cells #[.slice none 0 0, .int .i64 b, .int .i64 s, .slice (some ⟨g, 0, none⟩) 0 0, .string .empty] 150 (0, 0)) → Below w.heap.size w w' → Q .normal ⟨#[s0, s1, .int .i64 b, .int .i64 s, .pointer (some ⟨B4, 0, none⟩), s5, s6, s7, .pointer (some ⟨B8, 0, none⟩), .pointer (some ⟨q, 0, none⟩), s10, s11, s12, s13, y14, y15, y16, y17, y18, y19, y20, s21, s22, s23, s24, s25, s26, s27, s28, s29, s30, s31, s32, s33, s34, s35, s36, s37, s38, s39, s40], []⟩ w') :
    Code.wp Tryz.prog laidR1 Q ⟨#[s0, s1, .int .i64 b, .int .i64 s, .pointer (some ⟨B4, 0, none⟩), s5, s6, s7, .pointer (some ⟨B8, 0, none⟩), s9, s10, s11, s12, s13, s14, s15, s16, s17, s18, s19, s20, s21, s22, s23, s24, s25, s26, s27, s28, s29, s30, s31, s32, s33, s34, s35, s36, s37, s38, s39, s40], []⟩ w := by
  conv => arg 2; whnf
  have hmk := make_none
  go_region_held3 (fun w' => w'.cell? ⟨B4, 0, none⟩ = some (.slice none 0 0)) (go_keep) ((fail))
  · have hbl : ∀ o1 o2 : Obj, Below w.heap.size w ((w.alloc o1).alloc o2).drew := fun o1 o2 => by
      have h := ((Below.refl w.heap.size w).alloc (Nat.le_refl _) o1).alloc (by simp) o2
      exact ⟨h.os, h.tape, h.output, h.size, h.block⟩
    refine hQ _ w.heap.size (w.heap.size + 1) _ _ _ _ _ _ _ (by omega) (by omega) (by omega) ?_ ?_ (hbl _ _)
    · exact (Below.heap_alloc _ _ _ (by simp)).trans (World.alloc_heap_new w _)
    · have h := World.alloc_heap_new (w.alloc (.cells #[] 3)) (.cells #[.slice none 0 0, .int .i64 b, .int .i64 s, .slice (some ⟨w.heap.size, 0, none⟩) 0 0, .string .empty] 150)
      rw [World.size_alloc] at h
      exact h
  · have hbl : ∀ o1 o2 : Obj, Below w.heap.size w ((w.alloc o1).alloc o2).drew := fun o1 o2 => by
      have h := ((Below.refl w.heap.size w).alloc (Nat.le_refl _) o1).alloc (by simp) o2
      exact ⟨h.os, h.tape, h.output, h.size, h.block⟩
    refine hQ _ (w.heap.size + 1) w.heap.size _ _ _ _ _ _ _ (by omega) (by omega) (by omega) ?_ ?_ (hbl _ _)
    · have h := World.alloc_heap_new (w.alloc (.cells #[.slice none 0 0, .int .i64 b, .int .i64 s, .slice (some ⟨w.heap.size + 1, 0, none⟩) 0 0, .string .empty] 150)) (.cells #[] 3)
      rw [World.size_alloc] at h
      exact h
    · exact (Below.heap_alloc _ _ _ (by simp)).trans (World.alloc_heap_new w _)
set_option maxRecDepth 100000 in
set_option maxHeartbeats 1000000 in
theorem laid_in (b s : Int) (w : World) :
    CallsIn Fence.wide 3 Tryz.prog 63 #[.slice none 0 0, .slice none 0 0, .int .i64 b, .int .i64 s] w fun e W' => ∃ g, w.heap.size ≤ g ∧
      e = .returned (.agg #[.slice none 0 0, .int .i64 b, .int .i64 s, .slice (some ⟨g, 0, none⟩) 0 0, .string .empty]) ∧ W'.heap[g]? = some (.cells #[] 3 (0, 0)) ∧ Below w.heap.size w W' := by
  refine callsIn_of_wp_marks Tryz.func63 rfl trivial ?_ rfl
  simp only [Tryz.ntmps63, List.size_toArray, List.length_cons, List.length_nil, Nat.reduceAdd, Nat.reduceSub, Array.replicate_succ, Array.replicate_zero, List.push_toArray, List.append_toArray, List.nil_append, List.cons_append]
  gi_wp2
  refine wpIn_wide.2 ?_
  have c4 : ((w.alloc (.cells #[.slice none 0 0] 94)).alloc (.cells #[.slice none 0 0, .int .i64 0, .int .i64 0, .slice none 0 0, .string .empty] 150)).cell? ⟨w.heap.size, 0, none⟩ = some (.slice none 0 0) := by simp
  have hB0 := ((Below.refl w.heap.size w).alloc (Nat.le_refl _) (.cells #[.slice none 0 0] 94)).alloc (by simp) (.cells #[.slice none 0 0, .int .i64 0, .int .i64 0, .slice none 0 0, .string .empty] 150)
  have c8 := World.alloc_heap_new (w.alloc (.cells #[.slice none 0 0] 94)) (.cells #[.slice none 0 0, .int .i64 0, .int .i64 0, .slice none 0 0, .string .empty] 150)
  rw [World.size_alloc] at c8
  refine laid_r1 _ w.heap.size (w.heap.size + 1) b s c4 _ ?_
  intro w1 g q y14 y15 y16 y17 y18 y19 y20 hg hq hgq cg cq hb1
  simp only [World.size_alloc] at hg hq
  gi_wp2
  refine ⟨trivial, (backward_in Fence.wide 2 trivial rfl none 0 0 _).mono ?_⟩
  rintro e w2 ⟨rfl, rfl⟩
  have zw : w.heap.size + 2 ≤ w1.heap.size := by have := hb1.size; simp at this; omega
  have zg : g < w1.heap.size := (Array.getElem?_eq_some_iff.1 cg).1
  have zq : q < w1.heap.size := (Array.getElem?_eq_some_iff.1 cq).1
  have k8 : Blk w1 (w.heap.size + 1) 150 #[.slice none 0 0, .int .i64 0, .int .i64 0, .slice none 0 0, .string .empty] := (hb1.block _ (by simp)).trans c8
  have HB1 := Lib.hid (hB0.trans (hb1.mono (by simp; omega)))
  have HG := Lib.hid cg
  have HQ := Lib.hid (show Blk w1 q 150 _ from cq)
  have H8 := Lib.hid k8
  have hBn : Below w1.heap.size w1 ((w1.alloc (.cells #[.int .i64 1] 3)).alloc (.cells #[.slice none 0 0] 69)) := ((Below.refl _ _).alloc (Nat.le_refl _) _).alloc (by simp) _
  clear c4 c8 hB0 cg cq hb1 k8
  gi_wp2
  refine wpIn_rangeFunc_ownG (F := Fence.wide) (n := 3) rfl (by omega) (gf := 162) (lb := #[.pointer (some ⟨w1.heap.size + 1, 0, none⟩)]) rfl trivial (enters_of Tryz.func162 (by kernel_rfl) rfl)
    (back_stops Fence.wide 2 trivial rfl (w1.heap.size + 1) none 0 (fun _ => #[.int .i64 0, .string .empty]) (Below w1.heap.size) _ (by simp) (by simp)) belowK_t (belowK_b (by simp; omega)) (Below.refl _ _) (fun _ => rfl)
    (fun _ W => Below w1.heap.size w1 W)
    (fun _ _ _ => False)
    (ownFrom_below (Nat.le_refl _) (by simp; omega))
    (fun _ _ _ _ _ hs _ _ => hs)
    hBn
    (fun _ => { tmps := #[.slice none 0 0, .slice none 0 0, .int .i64 b, .int .i64 s, .pointer (some ⟨w.heap.size, 0, none⟩), undef, undef, undef, .pointer (some ⟨w.heap.size + 1, 0, none⟩), .pointer (some ⟨q, 0, none⟩), .pointer (some ⟨w1.heap.size, 0, none⟩), undef, .string .empty, undef, y14, y15, y16, y17, y18, y19, y20, .slice none 0 0, .func (.func 162) #[] #[.pointer (some ⟨w1.heap.size + 1, 0, none⟩)], .int .i64 0, .string .empty, undef, undef, undef, undef, undef, undef, undef, undef, undef, undef, undef, undef, undef, undef, undef, undef], defers := [] }) ?assign ?body ?done ?stop
  case assign =>
    intro l y W K hK
    gi_wp2
    exact hK
  case body =>
    intro l pre y W _ hlen
    exact absurd hlen (Nat.not_lt_zero _)
  case stop =>
    rintro D c pre W _ _ h _
    exact h.elim
  case done =>
    rintro D ys W hD rfl hB hK
    have kq := HQ.out.below hB zq
    have k8 := H8.out.below hB (by omega)
    have kg := (hB.block g zg).trans HG.out
    have hBw := HB1.out.trans (hB.mono (by omega))
    have q0 := kq.cell 0
    have q1 := kq.cell 1
    have q2 := kq.cell 2
    have q3 := kq.cell 3
    have q4 := kq.cell 4
    have p0 := k8.cell 0
    have p1 := k8.cell 1
    have p2 := k8.cell 2
    have p3 := k8.cell 3
    have p4 := k8.cell 4
    have f0 := k8.frozen 0
    have f1 := k8.frozen 1
    have f2 := k8.frozen 2
    have f3 := k8.frozen 3
    have f4 := k8.frozen 4
    gi_wp2
    have hD' : w1.heap.size + 2 ≤ D := by simpa using hD
    have bf : Blk (((((W.setCell ⟨w.heap.size + 1, 0, none⟩ (.slice none 0 0)).setCell ⟨w.heap.size + 1, 1, none⟩ (.int .i64 b)).setCell ⟨w.heap.size + 1, 2, none⟩ (.int .i64 s)).setCell ⟨w.heap.size + 1, 3, none⟩ (.slice (some ⟨g, 0, none⟩) 0 0)).setCell ⟨w.heap.size + 1, 4, none⟩ (.string .empty)) (w.heap.size + 1) 150 #[.slice none 0 0, .int .i64 b, .int .i64 s, .slice (some ⟨g, 0, none⟩) 0 0, .string .empty] :=
      ((((k8.set_ 0 (.slice none 0 0)).set_ 1 (.int .i64 b)).set_ 2 (.int .i64 s)).set_ 3 (.slice (some ⟨g, 0, none⟩) 0 0)).set_ 4 (.string .empty)
    have hX : ∀ k, k ≠ w.heap.size + 1 → (((((W.setCell ⟨w.heap.size + 1, 0, none⟩ (.slice none 0 0)).setCell ⟨w.heap.size + 1, 1, none⟩ (.int .i64 b)).setCell ⟨w.heap.size + 1, 2, none⟩ (.int .i64 s)).setCell ⟨w.heap.size + 1, 3, none⟩ (.slice (some ⟨g, 0, none⟩) 0 0)).setCell ⟨w.heap.size + 1, 4, none⟩ (.string .empty)).heap[k]? = W.heap[k]? := fun k hk =>
      (Below.heap_setCell _ ⟨w.heap.size + 1, 4, none⟩ _ k hk).trans ((Below.heap_setCell _ ⟨w.heap.size + 1, 3, none⟩ _ k hk).trans ((Below.heap_setCell _ ⟨w.heap.size + 1, 2, none⟩ _ k hk).trans ((Below.heap_setCell _ ⟨w.heap.size + 1, 1, none⟩ _ k hk).trans (Below.heap_setCell _ ⟨w.heap.size + 1, 0, none⟩ _ k hk))))
    have hBX := ((((hBw.setCell (p := ⟨w.heap.size + 1, 0, none⟩) (by simp) (.slice none 0 0)).setCell (p := ⟨w.heap.size + 1, 1, none⟩) (by simp) (.int .i64 b)).setCell (p := ⟨w.heap.size + 1, 2, none⟩) (by simp) (.int .i64 s)).setCell (p := ⟨w.heap.size + 1, 3, none⟩) (by simp) (.slice (some ⟨g, 0, none⟩) 0 0)).setCell (p := ⟨w.heap.size + 1, 4, none⟩) (by simp) (.string .empty)
    have hKX := (hX D (by omega)).trans hK
    have hgX := (hX g (by omega)).trans kg
    generalize ((((W.setCell ⟨w.heap.size + 1, 0, none⟩ (.slice none 0 0)).setCell ⟨w.heap.size + 1, 1, none⟩ (.int .i64 b)).setCell ⟨w.heap.size + 1, 2, none⟩ (.int .i64 s)).setCell ⟨w.heap.size + 1, 3, none⟩ (.slice (some ⟨g, 0, none⟩) 0 0)).setCell ⟨w.heap.size + 1, 4, none⟩ (.string .empty) = X at *
    refine ⟨by simp, .inl ⟨_, _, rfl, run_takeDeferred hKX, ?_⟩⟩
    have hP := belowK_b (w := w1) (Nat.le_refl _) X D _ (.deferred none) (by omega) hKX rfl rfl
    have bf' := bf.below hP (by omega)
    refine ⟨_, results_cell_row (p := 8) (ty := 150) (fn := Tryz.f63) rfl _ _ (w.heap.size + 1) 150 #[.slice none 0 0, .int .i64 b, .int .i64 s, .slice (some ⟨g, 0, none⟩) 0 0, .string .empty] (0, 0) _ rfl bf' Tryz.underlying150 rfl rfl, g, by omega, rfl, ?_, ?_⟩
    · exact (hP.block g zg).trans hgX
    · exact hBX.trans (hP.mono (by omega))
theorem laid_any (w : World) (b s : Int) :
    Calls Tryz.prog 63 #[.slice none 0 0, .slice none 0 0, .int .i64 b, .int .i64 s] w fun e W' => ∃ g, w.heap.size ≤ g ∧
      e = .returned (.agg #[.slice none 0 0, .int .i64 b, .int .i64 s, .slice (some ⟨g, 0, none⟩) 0 0, .string .empty]) ∧ W'.heap[g]? = some (.cells #[] 3 (0, 0)) ∧ Below w.heap.size w W' :=
  (callsIn_wide (n := 3)).1 (laid_in b s w)
#print axioms laid_any
end Go.Proofs.YtpcejpcbkjnlkaaGreatDoor

/- Demo. -/
import Derived.Test.YtedkfehdfmimoaaGreatKc18
import Derived.Test.YtedkfehdfmimoaaGreatKc5
import Derived.Laws.ResultCell
namespace Go.Proofs.YtedkfehdfmimoaaGreat
open Go.RowKit

theorem results_row_tmp {P : Program} {fn : Func} {p u : Tmp} {ty : TypeId} (h : fn.results = #[.cell p ty, .tmp u]) (tmps : Array Value) (w : World) (g : Nat) (t : TypeId) (cs : Array Value) (d : TypeDesc)
    (hp : tmps.getD p undef = .pointer (some ⟨g, 0, none⟩)) (hg : Blk w g t cs)
    (hu : P.underlying ty = some d) (hd : (match d with | .struct _ | .array _ _ => true | _ => false) = true) (hi : (P.info? ty).map (·.size) = some cs.size) :
    (results fn tmps).run P w = .ok (.tuple #[.agg cs, tmps.getD u undef]) w := by
  rw [results_cell_tmp h, hp]
  simp [asAddr, Result.andThen, run_loadVar_row w g t ty cs (0, 0) d hg hu hd hi]
theorem lit_slc (w : World) (t : TypeId) (xs : List Int) (n : Nat) (hn : n = xs.length) (hm : n ≤ maxLen) : Slc (w.alloc (.cells (ints xs).toArray t)) (· = w.heap.size) (.slice (some ⟨w.heap.size, 0, none⟩) n n) xs := by
  subst hn
  exact ⟨_, _, rfl, reads_new w t xs _ rfl, Nat.le_refl _, hm, fun h => by cases h⟩

def demoM : Model where
  kind := 1
  vocab := 8
  width := 4
  top := 8
  cuts := [4, 6, 8, 3]
  embed := drawL 1 0 32
  place := drawL 1 32 16
  mix := drawL 1 48 48
  out := drawL 1 96 32
  soft := [64, 32, 16, 8, 4, 2, 1]
  odds := [32, 16, 8, 4, 2, 1]
theorem inRange_more {a b c d : Int} {l : List Int} (h : inRange a b l) (h1 : c ≤ a) (h2 : b ≤ d) : inRange c d l := fun x hx => by have := h x hx; omega
theorem demo_ok : demoM.Ok where
  kind := by decide
  vocab := by decide
  width := by decide
  top := by decide
  attend := fun _ => by simp [demoM, drawL_length]
  cell := fun h => by simp [demoM] at h
  conv := fun h => by simp [demoM] at h
  lcuts := rfl
  lembed := by simp [demoM, drawL_length]
  lout := by simp [demoM, drawL_length]
  lplace := ⟨4, by omega, by omega, by simp [demoM, drawL_length]⟩
  lsoft := by decide
  lodds := by decide
  cuts := by unfold inRange; decide
  embed := inRange_more (drawL_range _ _ _) (by omega) (by omega)
  place := inRange_more (drawL_range _ _ _) (by omega) (by omega)
  mix := inRange_more (drawL_range _ _ _) (by omega) (by omega)
  out := inRange_more (drawL_range _ _ _) (by omega) (by omega)
  soft := by unfold inRange; decide
  odds := by unfold inRange; decide
  odds0 := by decide

/-- Make under way. -/
structure MakeSt (w W : World) (d : Nat) (v5 v6 v7 v8 v9 v10 : Value) : Prop where
  k4 : Blk W w.heap.size 3 #[.int .i64 1]
  k8 : Blk W (w.heap.size + 1) 27 #[.int .i64 0, .int .i64 0, .int .i64 0, .int .i64 0, .slice none 0 0, .slice none 0 0, .slice none 0 0, .slice none 0 0, .slice none 0 0, .slice none 0 0, .slice none 0 0]
  k11 : Blk W (w.heap.size + 1 + 1) 3 #[.int .i64 d]
  s4 : Slc W (· = w.heap.size + 1 + 1 + 1) (.slice (some ⟨w.heap.size + 1 + 1 + 1, 0, none⟩) 4 4) [4, 6, 8, 3]
  k13 : Blk W (w.heap.size + 1 + 1 + 1 + 1) 27 #[.int .i64 1, .int .i64 8, .int .i64 4, .int .i64 8, .slice (some ⟨w.heap.size + 1 + 1 + 1, 0, none⟩) 4 4, v5, v6, v7, v8, v9, v10]
  bel : Below w.heap.size w W
section
variable {w W W1 : World} {d d1 : Nat} {v5 v6 v7 v8 v9 v10 v : Value} {xs : List Int}
theorem MakeSt.call (h : MakeSt w W d v5 v6 v7 v8 v9 v10) (k : Keeps (· = w.heap.size + 1 + 1) W W1) (kb : Blk W1 (w.heap.size + 1 + 1) 3 #[.int .i64 d1]) : MakeSt w W1 d1 v5 v6 v7 v8 v9 v10 :=
  ⟨k.blk h.k4 (by omega), k.blk h.k8 (by omega), kb, h.s4.keeps k (fun i hi => by omega), k.blk h.k13 (by omega), h.bel.trans ⟨k.os, k.tape, k.output, k.size, fun g hg => k.block g (by have := h.k4.lt; omega) (by omega)⟩⟩
theorem MakeSt.alloc (h : MakeSt w W d v5 v6 v7 v8 v9 v10) (o : Obj) : MakeSt w (W.alloc o) d v5 v6 v7 v8 v9 v10 :=
  ⟨h.k4.alloc o, h.k8.alloc o, h.k11.alloc o, h.s4.alloc o, h.k13.alloc o, h.bel.alloc h.bel.size o⟩
theorem MakeSt.put5 (h : MakeSt w W d v5 v6 v7 v8 v9 v10) (u : Value) : MakeSt w (W.setCell ⟨w.heap.size + 1 + 1 + 1 + 1, 5, none⟩ u) d u v6 v7 v8 v9 v10 :=
  ⟨h.k4.far (by simp <;> omega) u, h.k8.far (by simp <;> omega) u, h.k11.far (by simp) u, h.s4.keeps (Keeps.setCell (Keeps.refl (· = w.heap.size + 1 + 1 + 1 + 1) W) (fun _ => rfl) u) (fun i hi => by omega), by simpa using h.k13.set_ 5 u, h.bel.setCell (by simp <;> omega) u⟩
theorem MakeSt.put6 (h : MakeSt w W d v5 v6 v7 v8 v9 v10) (u : Value) : MakeSt w (W.setCell ⟨w.heap.size + 1 + 1 + 1 + 1, 6, none⟩ u) d v5 u v7 v8 v9 v10 :=
  ⟨h.k4.far (by simp <;> omega) u, h.k8.far (by simp <;> omega) u, h.k11.far (by simp) u, h.s4.keeps (Keeps.setCell (Keeps.refl (· = w.heap.size + 1 + 1 + 1 + 1) W) (fun _ => rfl) u) (fun i hi => by omega), by simpa using h.k13.set_ 6 u, h.bel.setCell (by simp <;> omega) u⟩
theorem MakeSt.put7 (h : MakeSt w W d v5 v6 v7 v8 v9 v10) (u : Value) : MakeSt w (W.setCell ⟨w.heap.size + 1 + 1 + 1 + 1, 7, none⟩ u) d v5 v6 u v8 v9 v10 :=
  ⟨h.k4.far (by simp <;> omega) u, h.k8.far (by simp <;> omega) u, h.k11.far (by simp) u, h.s4.keeps (Keeps.setCell (Keeps.refl (· = w.heap.size + 1 + 1 + 1 + 1) W) (fun _ => rfl) u) (fun i hi => by omega), by simpa using h.k13.set_ 7 u, h.bel.setCell (by simp <;> omega) u⟩
theorem MakeSt.put8 (h : MakeSt w W d v5 v6 v7 v8 v9 v10) (u : Value) : MakeSt w (W.setCell ⟨w.heap.size + 1 + 1 + 1 + 1, 8, none⟩ u) d v5 v6 v7 u v9 v10 :=
  ⟨h.k4.far (by simp <;> omega) u, h.k8.far (by simp <;> omega) u, h.k11.far (by simp) u, h.s4.keeps (Keeps.setCell (Keeps.refl (· = w.heap.size + 1 + 1 + 1 + 1) W) (fun _ => rfl) u) (fun i hi => by omega), by simpa using h.k13.set_ 8 u, h.bel.setCell (by simp <;> omega) u⟩
theorem MakeSt.put9 (h : MakeSt w W d v5 v6 v7 v8 v9 v10) (u : Value) : MakeSt w (W.setCell ⟨w.heap.size + 1 + 1 + 1 + 1, 9, none⟩ u) d v5 v6 v7 v8 u v10 :=
  ⟨h.k4.far (by simp <;> omega) u, h.k8.far (by simp <;> omega) u, h.k11.far (by simp) u, h.s4.keeps (Keeps.setCell (Keeps.refl (· = w.heap.size + 1 + 1 + 1 + 1) W) (fun _ => rfl) u) (fun i hi => by omega), by simpa using h.k13.set_ 9 u, h.bel.setCell (by simp <;> omega) u⟩
theorem MakeSt.put10 (h : MakeSt w W d v5 v6 v7 v8 v9 v10) (u : Value) : MakeSt w (W.setCell ⟨w.heap.size + 1 + 1 + 1 + 1, 10, none⟩ u) d v5 v6 v7 v8 v9 u :=
  ⟨h.k4.far (by simp <;> omega) u, h.k8.far (by simp <;> omega) u, h.k11.far (by simp) u, h.s4.keeps (Keeps.setCell (Keeps.refl (· = w.heap.size + 1 + 1 + 1 + 1) W) (fun _ => rfl) u) (fun i hi => by omega), by simpa using h.k13.set_ 10 u, h.bel.setCell (by simp <;> omega) u⟩
theorem far13 (h : Slc W (fun g => w.heap.size + 1 + 1 + 1 + 1 + 1 ≤ g) v xs) (i : Nat) (u : Value) : Slc (W.setCell ⟨w.heap.size + 1 + 1 + 1 + 1, i, none⟩ u) (fun g => w.heap.size + 1 + 1 + 1 + 1 + 1 ≤ g) v xs :=
  h.keeps (Keeps.setCell (Keeps.refl (· = w.heap.size + 1 + 1 + 1 + 1) W) (fun _ => rfl) u) (fun i hi => by omega)
end

set_option maxRecDepth 100000 in
set_option maxHeartbeats 8000000 in
theorem make_demo (w : World) : Calls Tryz.prog 25 #[.int .i64 1, .int .i64 1, .int .i64 8, .int .i64 4] w fun e w' =>
    ∃ v4 v5 v6 v7 v8 v9 v10, e = .returned (.tuple #[.agg #[.int .i64 1, .int .i64 8, .int .i64 4, .int .i64 8, v4, v5, v6, v7, v8, v9, v10], .int .i64 0]) ∧ MSl w' (fun g => w.heap.size ≤ g) demoM v4 v5 v6 v7 v8 v9 v10 ∧ Below w.heap.size w w' := by
  go_enter Tryz.func25, Tryz.ntmps25
  go_wp2_with (go_at_call 54; refine (sized_ok _ _ _ _ (by omega) (by omega) (by omega)).mono ?_; rintro e w' ⟨rfl, rfl⟩)
  have st : MakeSt w (((((w.alloc (.cells #[.int .i64 1] 3)).alloc (.cells #[.int .i64 0, .int .i64 0, .int .i64 0, .int .i64 0, .slice none 0 0, .slice none 0 0, .slice none 0 0, .slice none 0 0, .slice none 0 0, .slice none 0 0, .slice none 0 0] 27)).alloc (.cells #[.int .i64 0] 3)).alloc (.cells #[.int .i64 4, .int .i64 6, .int .i64 8, .int .i64 3] 3)).alloc (.cells #[.int .i64 1, .int .i64 8, .int .i64 4, .int .i64 8, .slice (some ⟨w.heap.size + 1 + 1 + 1, 0, none⟩) 4 4, .slice none 0 0, .slice none 0 0, .slice none 0 0, .slice none 0 0, .slice none 0 0, .slice none 0 0] 27)) 0 (.slice none 0 0) (.slice none 0 0) (.slice none 0 0) (.slice none 0 0) (.slice none 0 0) (.slice none 0 0) := by
    refine ⟨((((Blk.new _ _ _).alloc _).alloc _).alloc _).alloc _, by simpa using (((Blk.new (w.alloc _) _ _).alloc _).alloc _).alloc _, by simpa using (((Blk.new ((w.alloc _).alloc _) _ _).alloc _).alloc _), ?_, by simpa using Blk.new ((((w.alloc _).alloc _).alloc _).alloc _) _ _, by go_grown⟩
    have := (reads_new (((w.alloc (.cells #[.int .i64 1] 3)).alloc (.cells #[.int .i64 0, .int .i64 0, .int .i64 0, .int .i64 0, .slice none 0 0, .slice none 0 0, .slice none 0 0, .slice none 0 0, .slice none 0 0, .slice none 0 0, .slice none 0 0] 27)).alloc (.cells #[.int .i64 0] 3)) 3 [4, 6, 8, 3] 4 rfl).alloc (.cells #[.int .i64 1, .int .i64 8, .int .i64 4, .int .i64 8, .slice (some ⟨w.heap.size + 1 + 1 + 1, 0, none⟩) 4 4, .slice none 0 0, .slice none 0 0, .slice none 0 0, .slice none 0 0, .slice none 0 0, .slice none 0 0] 27)
    exact ⟨_, _, rfl, by have t := this; simp at t; exact t, by decide, by decide, fun h => by cases h⟩
  generalize (((((w.alloc (.cells #[.int .i64 1] 3)).alloc (.cells #[.int .i64 0, .int .i64 0, .int .i64 0, .int .i64 0, .slice none 0 0, .slice none 0 0, .slice none 0 0, .slice none 0 0, .slice none 0 0, .slice none 0 0, .slice none 0 0] 27)).alloc (.cells #[.int .i64 0] 3)).alloc (.cells #[.int .i64 4, .int .i64 6, .int .i64 8, .int .i64 3] 3)).alloc (.cells #[.int .i64 1, .int .i64 8, .int .i64 4, .int .i64 8, .slice (some ⟨w.heap.size + 1 + 1 + 1, 0, none⟩) 4 4, .slice none 0 0, .slice none 0 0, .slice none 0 0, .slice none 0 0, .slice none 0 0, .slice none 0 0] 27)) = W at *
  refine (make1_any W 32 0 1 _ _ (by omega) (by omega) (by omega) st.k4 st.k11).mono ?_
  rintro e w1 ⟨va, rfl, hoa, kb, kk⟩
  have sa := hoa.slc.more (T' := fun g => w.heap.size + 1 + 1 + 1 + 1 + 1 ≤ g) fun g _ hg => Nat.le_trans st.k13.lt hg
  have st1 := st.call kk kb
  obtain ⟨Aa, ca, rfl, -, -⟩ := hoa.shape
  have q1 := st1.k13.cell 5
  have f1 := st1.k13.frozen 5
  clear hoa kk kb st
  go_wp2_with fail
  have st1' := st1.put5 (.slice Aa 32 ca)
  replace sa := far13 sa 5 (.slice Aa 32 ca)
  clear st1 q1 f1
  refine (make1_any _ 16 32 1 _ _ (by omega) (by omega) (by omega) st1'.k4 st1'.k11).mono ?_
  rintro e w2 ⟨vb, rfl, hob, kb, kk⟩
  have sb := hob.slc.more (T' := fun g => w.heap.size + 1 + 1 + 1 + 1 + 1 ≤ g) fun g _ hg => Nat.le_trans st1'.k13.lt hg
  have st2 := st1'.call kk kb
  replace sa := sa.keeps kk (fun i hi => by omega)
  obtain ⟨Ab, cb, rfl, -, -⟩ := hob.shape
  have q2 := st2.k13.cell 6
  have f2 := st2.k13.frozen 6
  clear hob kk kb st1'
  go_wp2_with fail
  have st2' := st2.put6 (.slice Ab 16 cb)
  replace sa := far13 sa 6 (.slice Ab 16 cb)
  replace sb := far13 sb 6 (.slice Ab 16 cb)
  clear st2 q2 f2
  refine (make1_any _ 48 48 1 _ _ (by omega) (by omega) (by omega) st2'.k4 st2'.k11).mono ?_
  rintro e w3 ⟨vc, rfl, hoc, kb, kk⟩
  have sc := hoc.slc.more (T' := fun g => w.heap.size + 1 + 1 + 1 + 1 + 1 ≤ g) fun g _ hg => Nat.le_trans st2'.k13.lt hg
  have st3 := st2'.call kk kb
  replace sa := sa.keeps kk (fun i hi => by omega)
  replace sb := sb.keeps kk (fun i hi => by omega)
  obtain ⟨Ac, cc, rfl, -, -⟩ := hoc.shape
  have q3 := st3.k13.cell 7
  have f3 := st3.k13.frozen 7
  clear hoc kk kb st2'
  go_wp2_with fail
  have st3' := st3.put7 (.slice Ac 48 cc)
  replace sa := far13 sa 7 (.slice Ac 48 cc)
  replace sb := far13 sb 7 (.slice Ac 48 cc)
  replace sc := far13 sc 7 (.slice Ac 48 cc)
  clear st3 q3 f3
  refine (make1_any _ 32 96 1 _ _ (by omega) (by omega) (by omega) st3'.k4 st3'.k11).mono ?_
  rintro e w4 ⟨vd, rfl, hod, kb, kk⟩
  have sd := hod.slc.more (T' := fun g => w.heap.size + 1 + 1 + 1 + 1 + 1 ≤ g) fun g _ hg => Nat.le_trans st3'.k13.lt hg
  have st4 := st3'.call kk kb
  replace sa := sa.keeps kk (fun i hi => by omega)
  replace sb := sb.keeps kk (fun i hi => by omega)
  replace sc := sc.keeps kk (fun i hi => by omega)
  obtain ⟨Ad, cd, rfl, -, -⟩ := hod.shape
  clear hod kk kb st3'
  have q4 := st4.k13.cell 8
  have f4 := st4.k13.frozen 8
  have st5 : MakeSt w ((w4.setCell ⟨w.heap.size + 1 + 1 + 1 + 1, 8, none⟩ (.slice Ad 32 cd)).alloc (.cells #[.int .i64 64, .int .i64 32, .int .i64 16, .int .i64 8, .int .i64 4, .int .i64 2, .int .i64 1] 3)) _ _ _ _ _ _ _ := (st4.put8 (.slice Ad 32 cd)).alloc _
  have q5 := st5.k13.cell 9
  have f5 := st5.k13.frozen 9
  have st6 : MakeSt w ((((w4.setCell ⟨w.heap.size + 1 + 1 + 1 + 1, 8, none⟩ (.slice Ad 32 cd)).alloc (.cells #[.int .i64 64, .int .i64 32, .int .i64 16, .int .i64 8, .int .i64 4, .int .i64 2, .int .i64 1] 3)).setCell ⟨w.heap.size + 1 + 1 + 1 + 1, 9, none⟩ (.slice (some ⟨w4.heap.size, 0, none⟩) 7 7)).alloc (.cells #[.int .i64 32, .int .i64 16, .int .i64 8, .int .i64 4, .int .i64 2, .int .i64 1] 3)) _ _ _ _ _ _ _ := (st5.put9 (.slice (some ⟨w4.heap.size, 0, none⟩) 7 7)).alloc _
  have q6 := st6.k13.cell 10
  have f6 := st6.k13.frozen 10
  have st7 : MakeSt w (((((w4.setCell ⟨w.heap.size + 1 + 1 + 1 + 1, 8, none⟩ (.slice Ad 32 cd)).alloc (.cells #[.int .i64 64, .int .i64 32, .int .i64 16, .int .i64 8, .int .i64 4, .int .i64 2, .int .i64 1] 3)).setCell ⟨w.heap.size + 1 + 1 + 1 + 1, 9, none⟩ (.slice (some ⟨w4.heap.size, 0, none⟩) 7 7)).alloc (.cells #[.int .i64 32, .int .i64 16, .int .i64 8, .int .i64 4, .int .i64 2, .int .i64 1] 3)).setCell ⟨w.heap.size + 1 + 1 + 1 + 1, 10, none⟩ (.slice (some ⟨w4.heap.size + 1, 0, none⟩) 6 6)) _ _ _ _ _ _ _ := st6.put10 (.slice (some ⟨w4.heap.size + 1, 0, none⟩) 6 6)
  have q7 := st7.k13.cell
  have q8 := st7.k8.cell
  have f8 := st7.k8.frozen
  have kz := w4.heap.size
  have z13 := st4.k13.lt
  have ks : ∀ u5 u6 u7, w.heap.size + 1 + 1 + 1 + 1 + 1 ≤ w4.heap.size := fun (_ _ _ : Nat) => z13
  have l9 := lit_slc (w4.setCell ⟨w.heap.size + 1 + 1 + 1 + 1, 8, none⟩ (.slice Ad 32 cd)) 3 [64, 32, 16, 8, 4, 2, 1] 7 rfl (by decide)
  have l10 := lit_slc (((w4.setCell ⟨w.heap.size + 1 + 1 + 1 + 1, 8, none⟩ (.slice Ad 32 cd)).alloc (.cells #[.int .i64 64, .int .i64 32, .int .i64 16, .int .i64 8, .int .i64 4, .int .i64 2, .int .i64 1] 3)).setCell ⟨w.heap.size + 1 + 1 + 1 + 1, 9, none⟩ (.slice (some ⟨w4.heap.size, 0, none⟩) 7 7)) 3 [32, 16, 8, 4, 2, 1] 6 rfl (by decide)
  have e9 : (w4.setCell ⟨w.heap.size + 1 + 1 + 1 + 1, 8, none⟩ (.slice Ad 32 cd)).heap.size = w4.heap.size := by simp
  have e10 : (((w4.setCell ⟨w.heap.size + 1 + 1 + 1 + 1, 8, none⟩ (.slice Ad 32 cd)).alloc (.cells #[.int .i64 64, .int .i64 32, .int .i64 16, .int .i64 8, .int .i64 4, .int .i64 2, .int .i64 1] 3)).setCell ⟨w.heap.size + 1 + 1 + 1 + 1, 9, none⟩ (.slice (some ⟨w4.heap.size, 0, none⟩) 7 7)).heap.size = w4.heap.size + 1 := by simp
  rw [e9] at l9
  rw [e10] at l10
  have l9' := ((far13 (l9.more (T' := fun g => w.heap.size + 1 + 1 + 1 + 1 + 1 ≤ g) fun g _ hg => by omega) 9 (.slice (some ⟨w4.heap.size, 0, none⟩) 7 7)).alloc (.cells (ints [32, 16, 8, 4, 2, 1]).toArray 3))
  have l9f := far13 l9' 10 (.slice (some ⟨w4.heap.size + 1, 0, none⟩) 6 6)
  have l10f := far13 (l10.more (T' := fun g => w.heap.size + 1 + 1 + 1 + 1 + 1 ≤ g) fun g _ hg => by omega) 10 (.slice (some ⟨w4.heap.size + 1, 0, none⟩) 6 6)
  have FA := fun (v : Value) (xs : List Int) (h : Slc w4 (fun g => w.heap.size + 1 + 1 + 1 + 1 + 1 ≤ g) v xs) => far13 ((far13 ((far13 h 8 (.slice Ad 32 cd)).alloc (.cells (ints [64, 32, 16, 8, 4, 2, 1]).toArray 3)) 9 (.slice (some ⟨w4.heap.size, 0, none⟩) 7 7)).alloc (.cells (ints [32, 16, 8, 4, 2, 1]).toArray 3)) 10 (.slice (some ⟨w4.heap.size + 1, 0, none⟩) 6 6)
  have la := FA _ _ sa
  have lb := FA _ _ sb
  have lc := FA _ _ sc
  have ld := FA _ _ sd
  clear st5 st6 l9 l10 l9' FA e9 e10 sa sb sc sd ks kz
  have HA := Lib.hid la
  have HB := Lib.hid lb
  have HC := Lib.hid lc
  have HD := Lib.hid ld
  have H9 := Lib.hid l9f
  have H10 := Lib.hid l10f
  clear la lb lc ld l9f l10f z13
  go_wp2_with fail
  have KF := Keeps.setCell (Keeps.setCell (Keeps.setCell (Keeps.setCell (Keeps.setCell (Keeps.setCell (Keeps.setCell (Keeps.setCell (Keeps.setCell (Keeps.setCell (Keeps.setCell (Keeps.refl (· = w.heap.size + 1) (((((w4.setCell ⟨w.heap.size + 1 + 1 + 1 + 1, 8, none⟩ (.slice Ad 32 cd)).alloc (.cells #[.int .i64 64, .int .i64 32, .int .i64 16, .int .i64 8, .int .i64 4, .int .i64 2, .int .i64 1] 3)).setCell ⟨w.heap.size + 1 + 1 + 1 + 1, 9, none⟩ (.slice (some ⟨w4.heap.size, 0, none⟩) 7 7)).alloc (.cells #[.int .i64 32, .int .i64 16, .int .i64 8, .int .i64 4, .int .i64 2, .int .i64 1] 3)).setCell ⟨w.heap.size + 1 + 1 + 1 + 1, 10, none⟩ (.slice (some ⟨w4.heap.size + 1, 0, none⟩) 6 6))) (p := ⟨w.heap.size + 1, 0, none⟩) (fun _ => rfl) (.int .i64 1)) (p := ⟨w.heap.size + 1, 1, none⟩) (fun _ => rfl) (.int .i64 8)) (p := ⟨w.heap.size + 1, 2, none⟩) (fun _ => rfl) (.int .i64 4)) (p := ⟨w.heap.size + 1, 3, none⟩) (fun _ => rfl) (.int .i64 8)) (p := ⟨w.heap.size + 1, 4, none⟩) (fun _ => rfl) (.slice (some ⟨w.heap.size + 1 + 1 + 1, 0, none⟩) 4 4)) (p := ⟨w.heap.size + 1, 5, none⟩) (fun _ => rfl) (.slice Aa 32 ca)) (p := ⟨w.heap.size + 1, 6, none⟩) (fun _ => rfl) (.slice Ab 16 cb)) (p := ⟨w.heap.size + 1, 7, none⟩) (fun _ => rfl) (.slice Ac 48 cc)) (p := ⟨w.heap.size + 1, 8, none⟩) (fun _ => rfl) (.slice Ad 32 cd)) (p := ⟨w.heap.size + 1, 9, none⟩) (fun _ => rfl) (.slice (some ⟨w4.heap.size, 0, none⟩) 7 7)) (p := ⟨w.heap.size + 1, 10, none⟩) (fun _ => rfl) (.slice (some ⟨w4.heap.size + 1, 0, none⟩) 6 6)
  have BF := (((((((((((st7.k8).set_ 0 (.int .i64 1)).set_ 1 (.int .i64 8)).set_ 2 (.int .i64 4)).set_ 3 (.int .i64 8)).set_ 4 (.slice (some ⟨w.heap.size + 1 + 1 + 1, 0, none⟩) 4 4)).set_ 5 (.slice Aa 32 ca)).set_ 6 (.slice Ab 16 cb)).set_ 7 (.slice Ac 48 cc)).set_ 8 (.slice Ad 32 cd)).set_ 9 (.slice (some ⟨w4.heap.size, 0, none⟩) 7 7)).set_ 10 (.slice (some ⟨w4.heap.size + 1, 0, none⟩) 6 6)
  (try simp only [Exit.inBlock, Exit.then])
  refine bodyPost_ret (v := .tuple #[.agg #[.int .i64 1, .int .i64 8, .int .i64 4, .int .i64 8, .slice (some ⟨w.heap.size + 1 + 1 + 1, 0, none⟩) 4 4, .slice Aa 32 ca, .slice Ab 16 cb, .slice Ac 48 cc, .slice Ad 32 cd, .slice (some ⟨w4.heap.size, 0, none⟩) 7 7, .slice (some ⟨w4.heap.size + 1, 0, none⟩) 6 6], .int .i64 0]) ?_ ?_ ?_
  · refine (results_row_tmp (p := 8) (u := 9) (ty := 27) (fn := Tryz.f25) ?_ _ _ (w.heap.size + 1) 27 #[.int .i64 1, .int .i64 8, .int .i64 4, .int .i64 8, .slice (some ⟨w.heap.size + 1 + 1 + 1, 0, none⟩) 4 4, .slice Aa 32 ca, .slice Ab 16 cb, .slice Ac 48 cc, .slice Ad 32 cd, .slice (some ⟨w4.heap.size, 0, none⟩) 7 7, .slice (some ⟨w4.heap.size + 1, 0, none⟩) 6 6] _ ?_ ?_ Tryz.underlying27 ?_ ?_)
    · rfl
    · rfl
    · simpa using BF
    · rfl
    · rfl
  · rfl
  have up : ∀ {v : Value} {xs : List Int}, Slc (((((w4.setCell ⟨w.heap.size + 1 + 1 + 1 + 1, 8, none⟩ (.slice Ad 32 cd)).alloc (.cells #[.int .i64 64, .int .i64 32, .int .i64 16, .int .i64 8, .int .i64 4, .int .i64 2, .int .i64 1] 3)).setCell ⟨w.heap.size + 1 + 1 + 1 + 1, 9, none⟩ (.slice (some ⟨w4.heap.size, 0, none⟩) 7 7)).alloc (.cells #[.int .i64 32, .int .i64 16, .int .i64 8, .int .i64 4, .int .i64 2, .int .i64 1] 3)).setCell ⟨w.heap.size + 1 + 1 + 1 + 1, 10, none⟩ (.slice (some ⟨w4.heap.size + 1, 0, none⟩) 6 6)) (fun g => w.heap.size + 1 + 1 + 1 + 1 + 1 ≤ g) v xs → Slc _ (fun g => w.heap.size ≤ g) v xs := fun h => (h.keeps KF (fun i hi => by omega)).more fun g _ hg => by omega
  exact ⟨_, _, _, _, _, _, _, rfl, ⟨(st7.s4.keeps KF (fun i hi => by omega)).more (fun g _ hg => by omega), up HA.out, up HB.out, up HC.out, up HD.out, up H9.out, up H10.out⟩, st7.bel.trans ⟨KF.os, KF.tape, KF.output, KF.size, fun g hg => KF.block g (by have := st7.k8.lt; omega) (by omega)⟩⟩
end Go.Proofs.YtedkfehdfmimoaaGreat

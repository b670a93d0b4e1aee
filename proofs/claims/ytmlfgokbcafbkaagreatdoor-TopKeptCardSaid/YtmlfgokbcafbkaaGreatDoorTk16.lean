/- codec.Read: its deferred closure where nothing has panicked. models.parse, checked, FromBytes of a valid model's bytes. slices.Equal at numbers and at bytes. The code of bytes: one changed byte changes it. Conditions: bytes. The reading of numbers out of bytes. Shards, in plain words. number4 and the seal of a file. read4, intact. models.Equal of equal models; models.Write at version 2. models.Write at version 2. Stream.Order. The last region of Stream.Model. -/
import Derived.Test.YtmlfgokbcafbkaaGreatDoorTk15
import Derived.Tactics
import Derived.Tactics2
import Derived.Defers
import Derived.Recover
import Derived.Test.YtmlfgokbcafbkaaGreatDoorTk5
import Derived.Test.YtmlfgokbcafbkaaGreatDoorTk7
import Derived.RegionTactic
import Derived.Laws.BitsLemmas
import Derived.Test.YtmlfgokbcafbkaaGreatDoorTk10
import Derived.Lib.EndianBits
import Derived.Test.YtmlfgokbcafbkaaGreatDoorTk11
import Derived.Test.YtmlfgokbcafbkaaGreatDoorTk12
import Derived.Laws.ResultCell
namespace Go.Proofs.YtmlfgokbcafbkaaGreatDoor
open Go.RowKit

set_option maxRecDepth 100000 in
theorem read_idle (p q r : Addr) (w : World) :
    CallsD Tryz.prog 75 #[.pointer (some p), .pointer (some q), .pointer (some r)] .returning w fun e u' w' => e = .returned (.tuple #[]) ∧ u' = .returning ∧ w' = w := by
  refine callsD_of_wpS Tryz.func75 rfl fun c₀ cs hu => ?_
  apply wpS_seq
  apply wpS_region
  simp [wpOpsS, go_sem, recoverD, hu, Tryz.ntmps75, Exit.thenS]
  refine wpS_of_wp ?_
  go_wp2_with fail
  cases c₀
  simp_all [bodyPostS, results, Tryz.results75]

theorem results_cells {P : Program} {fn : Func} {p u : Tmp} {ty tu : TypeId} (h : fn.results = #[.cell p ty, .cell u tu]) (tmps : Array Value) (w : World) (g k : Nat) (t : TypeId) (cs : Array Value) (d : TypeDesc) (x : Value)
    (hp : tmps.getD p undef = .pointer (some ⟨g, 0, none⟩)) (hg : Blk w g t cs) (hu : P.underlying ty = some d) (hd : (match d with | .struct _ | .array _ _ => true | _ => false) = true) (hi : (P.info? ty).map (·.size) = some cs.size)
    (hq : tmps.getD u undef = .pointer (some ⟨k, 0, none⟩)) (hx : (loadVar tu ⟨k, 0, none⟩).run P w = .ok x w) :
    (results fn tmps).run P w = .ok (.tuple #[.agg cs, x]) w := by
  have hp' : tmps[p]?.getD undef = .pointer (some ⟨g, 0, none⟩) := by simpa using hp
  have hq' : tmps[u]?.getD undef = .pointer (some ⟨k, 0, none⟩) := by simpa using hq
  simp [results, h, hp', hq', asAddr, Result.andThen, run_loadVar_row w g t ty cs (0, 0) d hg hu hd hi, hx]
theorem blk_four (w : World) (t0 t1 t2 t3 : TypeId) (c0 c1 c2 c3 : Array Value) :
    Blk ((((w.alloc (.cells c0 t0)).alloc (.cells c1 t1)).alloc (.cells c2 t2)).alloc (.cells c3 t3)) w.heap.size t0 c0 ∧ Blk ((((w.alloc (.cells c0 t0)).alloc (.cells c1 t1)).alloc (.cells c2 t2)).alloc (.cells c3 t3)) (w.heap.size + 1) t1 c1 ∧
    Blk ((((w.alloc (.cells c0 t0)).alloc (.cells c1 t1)).alloc (.cells c2 t2)).alloc (.cells c3 t3)) (w.heap.size + 1 + 1) t2 c2 ∧ Blk ((((w.alloc (.cells c0 t0)).alloc (.cells c1 t1)).alloc (.cells c2 t2)).alloc (.cells c3 t3)) (w.heap.size + 1 + 1 + 1) t3 c3 ∧
    Below w.heap.size w ((((w.alloc (.cells c0 t0)).alloc (.cells c1 t1)).alloc (.cells c2 t2)).alloc (.cells c3 t3)) ∧ ((((w.alloc (.cells c0 t0)).alloc (.cells c1 t1)).alloc (.cells c2 t2)).alloc (.cells c3 t3)).heap.size = w.heap.size + 4 := by
  have h1 : (w.alloc (.cells c0 t0)).heap.size = w.heap.size + 1 := by simp
  have h2 : ((w.alloc (.cells c0 t0)).alloc (.cells c1 t1)).heap.size = w.heap.size + 1 + 1 := by simp
  have h3 : (((w.alloc (.cells c0 t0)).alloc (.cells c1 t1)).alloc (.cells c2 t2)).heap.size = w.heap.size + 1 + 1 + 1 := by simp
  refine ⟨(((Blk.new w t0 c0).alloc _).alloc _).alloc _, ?_, ?_, ?_, ((((Below.refl _ _).alloc (Nat.le_refl _) _).alloc (by omega) _).alloc (by omega) _).alloc (by omega) _, by simp⟩
  · have := ((Blk.new (w.alloc (.cells c0 t0)) t1 c1).alloc (.cells c2 t2)).alloc (.cells c3 t3)
    rwa [h1] at this
  · have := (Blk.new ((w.alloc (.cells c0 t0)).alloc (.cells c1 t1)) t2 c2).alloc (.cells c3 t3)
    rwa [h2] at this
  · have := Blk.new (((w.alloc (.cells c0 t0)).alloc (.cells c1 t1)).alloc (.cells c2 t2)) t3 c3
    rwa [h3] at this
set_option maxRecDepth 100000 in
set_option maxHeartbeats 1000000 in
theorem read_model (w : World) (R : Nat → Prop) (A : Option Addr) (n c : Nat) (M : Model) (hr : Reads w R 1 A n (bytes (modelBytes M))) (hnc : n ≤ c) (hc : c ≤ maxLen) (hR0 : ∀ g, R g → g < w.heap.size) (hM : M.Ok) :
    Calls Tryz.prog 54 #[.slice A n c, .func (.func 55) #[] #[]] w fun e w' => ∃ v4 v5 v6 v7 v8 v9 v10, e = .returned (.tuple #[.agg #[.int .i64 M.kind, .int .i64 M.vocab, .int .i64 M.width, .int .i64 M.top, v4, v5, v6, v7, v8, v9, v10], .int .i64 0]) ∧ MSl w' (fun g => w.heap.size ≤ g) M v4 v5 v6 v7 v8 v9 v10 ∧ Below w.heap.size w w' := by
  have hmf : ∀ (fn : Fn) (first cap : Array Value) (w : World), (Instr.makeFunc fn first cap).run Tryz.prog w = .ok (.func fn first cap) w := fun _ _ _ _ => rfl
  have HR := Lib.hid hr
  have HR0 := Lib.hid hR0
  have HM := Lib.hid hM
  clear hr hR0 hM
  go_enter_defers Tryz.func54, Tryz.ntmps54
  go_wp2_with fail
  obtain ⟨k0, k1, k2, k3, hbW, hzW⟩ := blk_four w 27 31 27 119 #[.int .i64 0, .int .i64 0, .int .i64 0, .int .i64 0, .slice none 0 0, .slice none 0 0, .slice none 0 0, .slice none 0 0, .slice none 0 0, .slice none 0 0, .slice none 0 0] #[.int .i64 0] #[.int .i64 0, .int .i64 0, .int .i64 0, .int .i64 0, .slice none 0 0, .slice none 0 0, .slice none 0 0, .slice none 0 0, .slice none 0 0, .slice none 0 0, .slice none 0 0] #[.slice A n c]
  generalize ((((w.alloc (.cells #[.int .i64 0, .int .i64 0, .int .i64 0, .int .i64 0, .slice none 0 0, .slice none 0 0, .slice none 0 0, .slice none 0 0, .slice none 0 0, .slice none 0 0, .slice none 0 0] 27)).alloc (.cells #[.int .i64 0] 31)).alloc (.cells #[.int .i64 0, .int .i64 0, .int .i64 0, .int .i64 0, .slice none 0 0, .slice none 0 0, .slice none 0 0, .slice none 0 0, .slice none 0 0, .slice none 0 0, .slice none 0 0] 27)).alloc (.cells #[.slice A n c] 119)) = W at *
  obtain ⟨g0, h0⟩ : ∃ g, g = w.heap.size := ⟨_, rfl⟩
  obtain ⟨g1, h1⟩ : ∃ g, g = w.heap.size + 1 := ⟨_, rfl⟩
  obtain ⟨g2, h2⟩ : ∃ g, g = w.heap.size + 1 + 1 := ⟨_, rfl⟩
  obtain ⟨g3, h3⟩ : ∃ g, g = w.heap.size + 1 + 1 + 1 := ⟨_, rfl⟩
  have hsW : Src W R g3 (modelBytes M ++ []) := by
    rw [List.append_nil]
    exact ⟨A, n, c, by rw [h3]; exact k3, HR.out.keep hbW.size fun q _ ht => hbW.cell (HR0.out _ ht), hnc, hc, fun h => by have := HR0.out _ h; omega⟩
  have HP := Lib.hid (parse1_s W R g3 M [] hsW (fun g hg => Nat.lt_of_lt_of_le (HR0.out g hg) hbW.size) HM.out)
  rw [← h3, ← h2, ← h1, ← h0]
  rw [← h0] at k0
  rw [← h1] at k1
  rw [← h2] at k2
  have K0 := Lib.hid k0
  have K1 := Lib.hid k1
  have K2 := Lib.hid k2
  have HBW := Lib.hid hbW
  have H0 := Lib.hid h0
  have l1 : g0 < g1 := by omega
  have l2 : g1 < g2 := by omega
  have l3 : g2 < g3 := by omega
  have l4 : g3 < W.heap.size := by omega
  clear k0 k1 k2 k3 hbW hzW h0 h1 h2 h3 hsW
  refine HP.out.mono ?_
  rintro e w5 ⟨v4, v5, v6, v7, v8, v9, v10, rfl, hm, hs, hk⟩
  have m0 := hk.blk K0.out (by omega)
  have m1 := hk.blk K1.out (by omega)
  obtain ⟨A3, n3, c3, m3, hr3, -, -, -⟩ := hs
  have hn3 : n3 = 0 := by have := hr3.1; simp [bytes] at this; omega
  subst hn3
  have hone : ∀ v ∈ [v4, v5, v6, v7, v8, v9, v10], v.oneCell' = true := by
    intro v hv
    simp only [List.mem_cons, List.not_mem_nil, or_false] at hv
    rcases hv with rfl | rfl | rfl | rfl | rfl | rfl | rfl
    · exact hm.cuts.one
    · exact hm.embed.one
    · exact hm.place.one
    · exact hm.mix.one
    · exact hm.out.one
    · exact hm.soft.one
    · exact hm.odds.one
  have HONE := Lib.hid (cellsTo_one M.kind M.vocab M.width M.top _ 7 hone)
  have hi27 : (Tryz.prog.info? 27).map (·.size) = some 11 := by kernel_rfl
  have HMS := Lib.hid hm
  have M0 := Lib.hid m0
  have M1 := Lib.hid m1
  have M3 := Lib.hid m3
  have HK := Lib.hid hk
  clear hm m0 m1 m3 hr3 hone hk HP
  go_upto_region 5 with (first
    | (refine wpList_store_blk rfl 27 _ _ rfl g0 _ rfl rfl 27 _ M0.out hi27 rfl HONE.out ?_; intro w6 q0 k6))
  have c3' : w6.cell? ⟨g3, 0, none⟩ = some (.slice A3 0 c3) := (k6.blk M3.out (by omega)).cell 0
  have m16 := k6.blk M1.out (by omega)
  have hms6 := HMS.out.keeps k6 (fun i hi e => by omega)
  have Q0 := Lib.hid q0
  have M16 := Lib.hid m16
  have HMS6 := Lib.hid hms6
  have HK6 := Lib.hid (((Keeps.of_below HBW.out (fun g => g = g3 ∨ g = g0)).trans HK.out (fun i _ h => Or.inl h)).trans k6 (fun i _ h => Or.inr h))
  clear q0 m16 hms6 k6 HMS M0 M1 M3 HK K0 K1 K2
  go_upto_region 7 with (fail)
  go_wp2_with (first
    | (refine wpList_load_blk rfl 27 _ rfl g0 rfl 27 _ _ Q0.out Tryz.underlying27 rfl hi27 ?_)
    | (refine wpList_store_blk rfl 27 _ _ rfl g0 _ rfl rfl 27 _ Q0.out hi27 rfl HONE.out ?_; intro w7 q7 k7; have d1 := (k7.blk M16.out (by omega)).cell 0; have f1 := (k7.blk M16.out (by omega)).frozen 0))
  have q8 : Blk (w7.setCell ⟨g1, 0, none⟩ (.int .i64 0)) g0 27 (cellsTo M.kind M.vocab M.width M.top [v4, v5, v6, v7, v8, v9, v10] 7) := q7.far (p := ⟨g1, 0, none⟩) (by show g0 ≠ g1; omega) _
  have m8 : Blk (w7.setCell ⟨g1, 0, none⟩ (.int .i64 0)) g1 31 #[.int .i64 0] := (k7.blk M16.out (by omega)).set_ 0 _
  have k8 : Keeps (fun g => g = g0 ∨ g = g1) w6 (w7.setCell ⟨g1, 0, none⟩ (.int .i64 0)) := Keeps.setCell (p := ⟨g1, 0, none⟩) (k7.mono (S' := fun g => g = g0 ∨ g = g1) (fun i _ h => Or.inl h)) (fun _ => Or.inr rfl) _
  have e1 : (w7.setCell ⟨g1, 0, none⟩ (.int .i64 0)).cell? ⟨g1, 0, none⟩ = some (.int .i64 0) := m8.cell 0
  generalize w7.setCell ⟨g1, 0, none⟩ (.int .i64 0) = w8 at *
  have d8 : (loadVar 31 ⟨g1, 0, none⟩).run Tryz.prog w8 = .ok (.int .i64 0) w8 := by simp [loadVar, go_sem, e1]
  clear d1 f1 c3'
  refine leaves_cons (f := 75) (args := #[.pointer (some ⟨g2, 0, none⟩), .pointer (some ⟨g0, 0, none⟩), .pointer (some ⟨g1, 0, none⟩)]) (by simp) (by simp [go_sem]) ?_
  refine (read_idle ⟨g2, 0, none⟩ ⟨g0, 0, none⟩ ⟨g1, 0, none⟩ _).mono ?_
  rintro e u' w'' ⟨rfl, rfl, rfl⟩
  refine ⟨.tuple #[.agg (cellsTo M.kind M.vocab M.width M.top [v4, v5, v6, v7, v8, v9, v10] 7), .int .i64 0], ?_, ?_⟩
  · exact results_cells (p := 4) (u := 5) (ty := 27) (tu := 31) (fn := Tryz.f54) rfl _ _ g0 g1 27 _ _ _ rfl q8 Tryz.underlying27 rfl hi27 rfl d8
  have hz := HBW.out.size
  have h0 := H0.out
  exact ⟨v4, v5, v6, v7, v8, v9, v10, rfl, (HMS6.out.keeps k8 (fun i hi e => by omega)).more (fun g _ h => by omega), (((HK6.out.mono (S' := fun g => g = g3 ∨ g = g0 ∨ g = g1) (fun i _ h => by omega)).trans k8 (fun i _ h => Or.inr h)).mono (S' := fun _ => False) (fun i hi h => by omega)).to_below⟩
end Go.Proofs.YtmlfgokbcafbkaaGreatDoor

namespace Go.Proofs.YtmlfgokbcafbkaaGreatDoor
open Go.RowKit

theorem res_row_tmp {P : Program} {fn : Func} {p u : Tmp} {ty : TypeId} (h : fn.results = #[.cell p ty, .tmp u]) (tmps : Array Value) (w : World) (g : Nat) (t : TypeId) (cs : Array Value) (d : TypeDesc)
    (hp : tmps.getD p undef = .pointer (some ⟨g, 0, none⟩)) (hg : Blk w g t cs)
    (hu : P.underlying ty = some d) (hd : (match d with | .struct _ | .array _ _ => true | _ => false) = true) (hi : (P.info? ty).map (·.size) = some cs.size) :
    (results fn tmps).run P w = .ok (.tuple #[.agg cs, tmps.getD u undef]) w := by
  rw [results_cell_tmp h, hp]
  simp [asAddr, Result.andThen, run_loadVar_row w g t ty cs (0, 0) d hg hu hd hi]
theorem Slc.lit {w : World} {T : Nat → Prop} {v : Value} {xs : List Int} (h : Slc w T v xs) : ∃ A n c, v = .slice A n c := by
  obtain ⟨A, c, rfl, -⟩ := h
  exact ⟨_, _, _, rfl⟩
theorem MSl.ones {w : World} {T : Nat → Prop} {M : Model} {v4 v5 v6 v7 v8 v9 v10 : Value} (hm : MSl w T M v4 v5 v6 v7 v8 v9 v10) : (cellsTo M.kind M.vocab M.width M.top [v4, v5, v6, v7, v8, v9, v10] 7).all (·.oneCell') = true := by
  refine cellsTo_one M.kind M.vocab M.width M.top _ 7 ?_
  intro v hv
  simp only [List.mem_cons, List.not_mem_nil, or_false] at hv
  rcases hv with rfl | rfl | rfl | rfl | rfl | rfl | rfl
  · exact hm.cuts.one
  · exact hm.embed.one
  · exact hm.place.one
  · exact hm.mix.one
  · exact hm.out.one
  · exact hm.soft.one
  · exact hm.odds.one
set_option maxRecDepth 100000 in
set_option maxHeartbeats 1000000 in
theorem parse_any (w : World) (R : Nat → Prop) (A : Option Addr) (n c : Nat) (M : Model) (hr : Reads w R 1 A n (bytes (modelBytes M))) (hnc : n ≤ c) (hc : c ≤ maxLen) (hR0 : ∀ g, R g → g < w.heap.size) (hM : M.Ok) :
    Calls Tryz.prog 33 #[.slice A n c] w fun e w' => ∃ v4 v5 v6 v7 v8 v9 v10, e = .returned (.tuple #[.agg #[.int .i64 M.kind, .int .i64 M.vocab, .int .i64 M.width, .int .i64 M.top, v4, v5, v6, v7, v8, v9, v10], .int .i64 0]) ∧ MSl w' (fun g => w.heap.size ≤ g) M v4 v5 v6 v7 v8 v9 v10 ∧ Below w.heap.size w w' := by
  have HRD := Lib.hid (fun o => read_model (w.alloc o) R A n c M (hr.alloc o) hnc hc (fun g hg => by have := hR0 g hg; simp; omega) hM)
  clear hr hR0 hM
  go_enter Tryz.func33, Tryz.ntmps33
  go_wp2_with fail
  refine (HRD.out _).mono ?_
  rintro e w5 ⟨v4, v5, v6, v7, v8, v9, v10, rfl, hm, hb⟩
  have kr := (Blk.new w 27 #[.int .i64 0, .int .i64 0, .int .i64 0, .int .i64 0, .slice none 0 0, .slice none 0 0, .slice none 0 0, .slice none 0 0, .slice none 0 0, .slice none 0 0, .slice none 0 0]).below hb (by simp)
  have hb0 := ((Below.refl w.heap.size w).alloc (Nat.le_refl _) (.cells #[.int .i64 0, .int .i64 0, .int .i64 0, .int .i64 0, .slice none 0 0, .slice none 0 0, .slice none 0 0, .slice none 0 0, .slice none 0 0, .slice none 0 0, .slice none 0 0] 27)).trans (hb.mono (by simp))
  have hm' := hm.more (T' := fun g => w.heap.size + 1 ≤ g) (fun g _ h => by simpa using h)
  have hi27 : (Tryz.prog.info? 27).map (·.size) = some 11 := by kernel_rfl
  have HONE := Lib.hid hm.ones
  have HM := Lib.hid hm'
  have HB := Lib.hid hb0
  have HKR := Lib.hid kr
  clear hm hm' hb hb0 kr HRD
  go_wp2_with (first
    | (refine wpList_store_blk rfl 27 _ _ rfl w.heap.size _ rfl rfl 27 _ HKR.out hi27 rfl HONE.out ?_; intro w7 q7 k7))
  refine bodyPost_ret (v := .tuple #[.agg (cellsTo M.kind M.vocab M.width M.top [v4, v5, v6, v7, v8, v9, v10] 7), .int .i64 0]) ?_ ?_ ?_
  · exact res_row_tmp (p := 2) (u := 3) (ty := 27) (fn := Tryz.f33) rfl _ _ w.heap.size 27 _ _ rfl q7 Tryz.underlying27 rfl hi27
  · rfl
  exact ⟨v4, v5, v6, v7, v8, v9, v10, rfl, (HM.out.keeps k7 (fun i hi e => by omega)).more (fun g _ h => by omega), ((Keeps.of_below HB.out (fun _ => False)).trans k7 (fun i hi h => by omega)).to_below⟩

theorem blk_two (w : World) (t0 t1 : TypeId) (c0 c1 : Array Value) :
    Blk ((w.alloc (.cells c0 t0)).alloc (.cells c1 t1)) w.heap.size t0 c0 ∧ Blk ((w.alloc (.cells c0 t0)).alloc (.cells c1 t1)) (w.heap.size + 1) t1 c1 ∧
    Below w.heap.size w ((w.alloc (.cells c0 t0)).alloc (.cells c1 t1)) ∧ ((w.alloc (.cells c0 t0)).alloc (.cells c1 t1)).heap.size = w.heap.size + 2 := by
  have h1 : (w.alloc (.cells c0 t0)).heap.size = w.heap.size + 1 := by simp
  refine ⟨(Blk.new w t0 c0).alloc _, ?_, ((Below.refl _ _).alloc (Nat.le_refl _) _).alloc (by omega) _, by simp⟩
  have := Blk.new (w.alloc (.cells c0 t0)) t1 c1
  rwa [h1] at this
theorem MSl.checkedOk (w : World) {T : Nat → Prop} {M : Model} {v4 v5 v6 v7 v8 v9 v10 : Value} (h : MSl w T M v4 v5 v6 v7 v8 v9 v10) (hM : M.Ok) :
    Calls Tryz.prog 22 #[.agg (cellsTo M.kind M.vocab M.width M.top [v4, v5, v6, v7, v8, v9, v10] 7)] w fun e w' => e = .returned (.int .i64 0) ∧ Below w.heap.size w w' :=
  check_ok w T M v4 v5 v6 v7 v8 v9 v10 h hM
set_option maxRecDepth 100000 in
set_option maxHeartbeats 1000000 in
theorem checked_any (w : World) (T : Nat → Prop) (M : Model) (v4 v5 v6 v7 v8 v9 v10 : Value) (h : MSl w T M v4 v5 v6 v7 v8 v9 v10) (hM : M.Ok) :
    Calls Tryz.prog 34 #[.agg #[.int .i64 M.kind, .int .i64 M.vocab, .int .i64 M.width, .int .i64 M.top, v4, v5, v6, v7, v8, v9, v10]] w fun e w' => e = .returned (.tuple #[.agg #[.int .i64 M.kind, .int .i64 M.vocab, .int .i64 M.width, .int .i64 M.top, v4, v5, v6, v7, v8, v9, v10], .int .i64 0]) ∧ Below w.heap.size w w' := by
  have hi27 : (Tryz.prog.info? 27).map (·.size) = some 11 := by kernel_rfl
  have HONE := Lib.hid h.ones
  have HMS := Lib.hid h.old
  have HMO := Lib.hid hM
  clear h hM
  go_enter Tryz.func34, Tryz.ntmps34
  go_upto_region 1 with (fail)
  obtain ⟨kb, kr, hb0, hz0⟩ := blk_two w 27 27 #[.int .i64 M.kind, .int .i64 M.vocab, .int .i64 M.width, .int .i64 M.top, v4, v5, v6, v7, v8, v9, v10] #[.int .i64 0, .int .i64 0, .int .i64 0, .int .i64 0, .slice none 0 0, .slice none 0 0, .slice none 0 0, .slice none 0 0, .slice none 0 0, .slice none 0 0, .slice none 0 0]
  generalize ((w.alloc (.cells #[.int .i64 M.kind, .int .i64 M.vocab, .int .i64 M.width, .int .i64 M.top, v4, v5, v6, v7, v8, v9, v10] 27)).alloc (.cells #[.int .i64 0, .int .i64 0, .int .i64 0, .int .i64 0, .slice none 0 0, .slice none 0 0, .slice none 0 0, .slice none 0 0, .slice none 0 0, .slice none 0 0, .slice none 0 0] 27)) = W at *
  obtain ⟨b, hb⟩ : ∃ g, g = w.heap.size := ⟨_, rfl⟩
  obtain ⟨r, hr⟩ : ∃ g, g = w.heap.size + 1 := ⟨_, rfl⟩
  rw [← hb] at kb
  rw [← hr] at kr
  rw [← hr, ← hb]
  have l1 : b < r := by omega
  have l2 : r < W.heap.size := by omega
  have HC := Lib.hid (MSl.checkedOk W (HMS.out.fresh hb0) HMO.out)
  have KB := Lib.hid kb
  have KR := Lib.hid kr
  have HB0 := Lib.hid hb0
  have HB := Lib.hid hb
  clear kb kr hb0 hz0 hb hr HMS
  go_wp2_with (first
    | (refine wpList_load_blk rfl 27 _ rfl b rfl 27 _ _ KB.out Tryz.underlying27 rfl hi27 ?_))
  refine HC.out.mono ?_
  rintro e w5 ⟨rfl, hb5⟩
  have KB5 := Lib.hid (KB.out.below hb5 (by omega))
  have KR5 := Lib.hid (KR.out.below hb5 (by omega))
  have HB5 := Lib.hid ((Keeps.of_below HB0.out (fun _ => False)).fresh hb5)
  clear hb5
  go_wp2_with (first
    | (refine wpList_load_blk rfl 27 _ rfl b rfl 27 _ _ KB5.out Tryz.underlying27 rfl hi27 ?_)
    | (refine wpList_store_blk rfl 27 _ _ rfl r _ rfl rfl 27 _ KR5.out hi27 rfl HONE.out ?_; intro w7 q7 k7))
  refine bodyPost_ret (v := .tuple #[.agg (cellsTo M.kind M.vocab M.width M.top [v4, v5, v6, v7, v8, v9, v10] 7), .int .i64 0]) ?_ ?_ ?_
  · exact res_row_tmp (p := 2) (u := 3) (ty := 27) (fn := Tryz.f34) rfl _ _ r 27 _ _ rfl q7 Tryz.underlying27 rfl hi27
  · rfl
  have hb := HB.out
  exact ⟨rfl, (HB5.out.trans k7 (fun i hi h => by omega)).to_below⟩

set_option maxRecDepth 100000 in
set_option maxHeartbeats 1000000 in
theorem fromBytes_any (w : World) (R : Nat → Prop) (A : Option Addr) (n c : Nat) (M : Model) (hr : Reads w R 1 A n (bytes (modelBytes M))) (hnc : n ≤ c) (hc : c ≤ maxLen) (hR0 : ∀ g, R g → g < w.heap.size) (hM : M.Ok) :
    Calls Tryz.prog 42 #[.slice A n c] w fun e w' => ∃ v4 v5 v6 v7 v8 v9 v10, e = .returned (.tuple #[.agg #[.int .i64 M.kind, .int .i64 M.vocab, .int .i64 M.width, .int .i64 M.top, v4, v5, v6, v7, v8, v9, v10], .int .i64 0]) ∧ MSl w' (fun g => w.heap.size ≤ g) M v4 v5 v6 v7 v8 v9 v10 ∧ Below w.heap.size w w' := by
  have HRD := Lib.hid (fun o => parse_any (w.alloc o) R A n c M (hr.alloc o) hnc hc (fun g hg => by have := hR0 g hg; simp; omega) hM)
  have hi27 : (Tryz.prog.info? 27).map (·.size) = some 11 := by kernel_rfl
  have HMO := Lib.hid hM
  clear hr hR0 hM
  go_enter Tryz.func42, Tryz.ntmps42
  go_wp2_with fail
  refine (HRD.out _).mono ?_
  rintro e w5 ⟨v4, v5, v6, v7, v8, v9, v10, rfl, hm, hb⟩
  have kr := (Blk.new w 27 #[.int .i64 0, .int .i64 0, .int .i64 0, .int .i64 0, .slice none 0 0, .slice none 0 0, .slice none 0 0, .slice none 0 0, .slice none 0 0, .slice none 0 0, .slice none 0 0]).below hb (by simp)
  have hb0 := ((Below.refl w.heap.size w).alloc (Nat.le_refl _) (.cells #[.int .i64 0, .int .i64 0, .int .i64 0, .int .i64 0, .slice none 0 0, .slice none 0 0, .slice none 0 0, .slice none 0 0, .slice none 0 0, .slice none 0 0, .slice none 0 0] 27)).trans (hb.mono (by simp))
  have hm' := hm.more (T' := fun g => w.heap.size + 1 ≤ g) (fun g _ h => by simpa using h)
  have HONE := Lib.hid hm.ones
  have HM := Lib.hid hm'
  have HB := Lib.hid hb0
  have HKR := Lib.hid kr
  clear hm hm' hb hb0 kr HRD
  obtain ⟨A4, N4, c4, rfl⟩ := HM.out.cuts.lit
  obtain ⟨A5, N5, c5, rfl⟩ := HM.out.embed.lit
  obtain ⟨A6, N6, c6, rfl⟩ := HM.out.place.lit
  obtain ⟨A7, N7, c7, rfl⟩ := HM.out.mix.lit
  obtain ⟨A8, N8, c8, rfl⟩ := HM.out.out.lit
  obtain ⟨A9, N9, c9, rfl⟩ := HM.out.soft.lit
  obtain ⟨A10, N10, c10, rfl⟩ := HM.out.odds.lit
  go_upto_region 4 with (fail)
  have hz5 := HB.out.size
  have q6 := Blk.new w5 27 #[.int .i64 M.kind, .int .i64 M.vocab, .int .i64 M.width, .int .i64 M.top, .slice A4 N4 c4, .slice A5 N5 c5, .slice A6 N6 c6, .slice A7 N7 c7, .slice A8 N8 c8, .slice A9 N9 c9, .slice A10 N10 c10]
  have k56 : Keeps (fun _ => False) w5 (w5.alloc (.cells #[.int .i64 M.kind, .int .i64 M.vocab, .int .i64 M.width, .int .i64 M.top, .slice A4 N4 c4, .slice A5 N5 c5, .slice A6 N6 c6, .slice A7 N7 c7, .slice A8 N8 c8, .slice A9 N9 c9, .slice A10 N10 c10] 27)) := (Keeps.refl (fun _ => False) w5).alloc _
  generalize (w5.alloc (.cells #[.int .i64 M.kind, .int .i64 M.vocab, .int .i64 M.width, .int .i64 M.top, .slice A4 N4 c4, .slice A5 N5 c5, .slice A6 N6 c6, .slice A7 N7 c7, .slice A8 N8 c8, .slice A9 N9 c9, .slice A10 N10 c10] 27)) = w6 at *
  have hz6 : w5.heap.size < w6.heap.size := q6.lt
  have hm6 := HM.out.keeps k56 (fun i _ h => h)
  have HCK := Lib.hid (checked_any w6 _ M _ _ _ _ _ _ _ hm6 HMO.out)
  have HM6 := Lib.hid hm6
  have HKR6 := Lib.hid (k56.blk HKR.out (fun h => h))
  have HB6 := Lib.hid ((Keeps.of_below HB.out (fun _ => False)).tr k56)
  have HQ6 := Lib.hid q6
  have HWZ := Lib.hid HKR.out.lt
  obtain ⟨m, hm⟩ : ∃ m, m = w5.heap.size := ⟨_, rfl⟩
  rw [← hm] at HQ6
  rw [← hm]
  clear q6 k56 hm6 hz5 hz6 hm HM HKR HB
  go_wp2_with (first
    | (refine wpList_load_blk rfl 27 _ rfl m rfl 27 _ _ HQ6.out Tryz.underlying27 rfl hi27 ?_))
  refine HCK.out.mono ?_
  rintro e w7 ⟨rfl, hb7⟩
  have HKR7 := Lib.hid (HKR6.out.below hb7 HKR6.out.lt)
  have HB7 := Lib.hid (HB6.out.fresh hb7)
  have HM7 := Lib.hid (HM6.out.fresh hb7)
  clear hb7 HKR6 HB6 HM6 HQ6 HCK
  go_wp2_with (first
    | (refine wpList_store_blk rfl 27 _ _ rfl w.heap.size _ rfl rfl 27 _ HKR7.out hi27 rfl HONE.out ?_; intro w8 q8 k8))
  refine bodyPost_ret (v := .tuple #[.agg #[.int .i64 M.kind, .int .i64 M.vocab, .int .i64 M.width, .int .i64 M.top, .slice A4 N4 c4, .slice A5 N5 c5, .slice A6 N6 c6, .slice A7 N7 c7, .slice A8 N8 c8, .slice A9 N9 c9, .slice A10 N10 c10], .int .i64 0]) ?_ ?_ ?_
  · exact res_row_tmp (p := 2) (u := 3) (ty := 27) (fn := Tryz.f42) rfl _ _ w.heap.size 27 _ _ rfl q8 Tryz.underlying27 rfl hi27
  · rfl
  exact ⟨_, _, _, _, _, _, _, rfl, (HM7.out.keeps k8 (fun i hi e => by omega)).more (fun g _ h => by omega), (HB7.out.trans k8 (fun i hi h => by omega)).to_below⟩
end Go.Proofs.YtmlfgokbcafbkaaGreatDoor

namespace Go.Proofs.YtmlfgokbcafbkaaGreatDoor
open Go.RowKit

set_option maxRecDepth 100000 in
set_option maxHeartbeats 1000000 in
theorem eqInts_any (w : World) (T T' : Nat → Prop) (A B : Option Addr) (n m c d : Nat) (xs ys : List Int) (hx : Reads w T 1 A n (ints xs)) (hy : Reads w T' 1 B m (ints ys)) (hn : n ≤ 1000000) :
    Calls Tryz.prog 38 #[.slice A n c, .slice B m d] w fun e w' => e = .returned (.bool (decide (xs = ys))) ∧ ∃ k, w' = w.drewN k := by
  have hlx : xs.length = n := by have := hx.1; simp [ints] at this; omega
  have hly : ys.length = m := by have := hy.1; simp [ints] at this; omega
  by_cases hnm : n = m
  · subst hnm
    have HLX := Lib.hid hlx
    have HLY := Lib.hid hly
    clear hlx hly
    have hself : ((n : Int) != (n : Int)) = false := by simp
    go_enter Tryz.func38, Tryz.ntmps38
    go_wp2_with fail
    go_loopw [13] (fun i wr => ∃ k j : Nat, k ≤ n ∧ i = .int .i64 k ∧ wr = w.drewN j ∧ Hid (∀ q, q < k → xs[q]? = ys[q]?)) (fun i _ => n - (intOf i).toNat)
    case atStart => exact ⟨0, 0, Nat.zero_le _, rfl, rfl, fun q h => absurd h (by omega)⟩
    obtain ⟨k, j, hk, rfl, rfl, HQ⟩ := hrel
    by_cases hlt : k < n
    · obtain ⟨ad, u, rfl, _, _, hu, hc⟩ := hx.at_ hlt
      obtain ⟨ad2, u2, rfl, _, _, hu2, hc2⟩ := hy.at_ hlt
      have l1 : k < xs.length := by rw [HLX.out]; exact hlt
      have l2 : k < ys.length := by rw [HLY.out]; exact hlt
      rw [ints_get xs _ l1] at hu
      rw [ints_get ys _ l2] at hu2
      injection hu with hu
      injection hu2 with hu2
      subst hu
      subst hu2
      have g1 := List.getElem?_eq_getElem l1
      have g2 := List.getElem?_eq_getElem l2
      generalize xs[k] = x at *
      generalize ys[k] = y at *
      have G1 := Lib.hid g1
      have G2 := Lib.hid g2
      clear g1 g2 l1 l2
      by_cases hxy : x = y
      · subst hxy
        have hxx : ((x : Int) != x) = false := by simp
        go_wp2_with fail
        go_quiet (fail)
        go_wp2_with fail
        go_roundw
        case rel =>
          refine ⟨k + 1, _, by omega, by go_num, rfl, ?_⟩
          intro q hq
          by_cases e : q = k
          · subst e; rw [G1.out, G2.out]
          · exact HQ q (by omega)
        case measure => simp [intOf]; omega
      · have hxx : (x != y) = true := by simpa using hxy
        go_wp2_with fail
        go_quiet (fail)
        go_wp2_with fail
        go_ret
        refine ⟨?_, _, World.drewN_drewN _ _ _⟩
        have : xs ≠ ys := by
          intro e
          have h1 := G1.out
          rw [e, G2.out] at h1
          injection h1 with h1
          exact hxy h1.symm
        simp [this]
    · obtain rfl : k = n := by omega
      go_wp2_with fail
      go_ret
      refine ⟨?_, _, rfl⟩
      have : xs = ys := by
        apply List.ext_getElem?
        intro q
        by_cases hq : q < k
        · exact HQ q hq
        · rw [List.getElem?_eq_none (by rw [HLX.out]; omega), List.getElem?_eq_none (by rw [HLY.out]; omega)]
      simp [this]
  · have hne : ((n : Int) != (m : Int)) = true := by simp; omega
    go_enter Tryz.func38, Tryz.ntmps38
    go_wp2_with fail
    go_ret
    refine ⟨?_, 0, rfl⟩
    have : xs ≠ ys := fun e => hnm (by rw [← hlx, ← hly, e])
    simp [this]

set_option maxRecDepth 100000 in
set_option maxHeartbeats 1000000 in
theorem eqBytes_any (w : World) (T T' : Nat → Prop) (A B : Option Addr) (n m c d : Nat) (xs ys : List Int) (hx : Reads w T 1 A n (bytes xs)) (hy : Reads w T' 1 B m (bytes ys)) (hn : n ≤ 1000000) :
    Calls Tryz.prog 58 #[.slice A n c, .slice B m d] w fun e w' => e = .returned (.bool (decide (xs = ys))) ∧ ∃ k, w' = w.drewN k := by
  have hlx : xs.length = n := by have := hx.1; simp [bytes] at this; omega
  have hly : ys.length = m := by have := hy.1; simp [bytes] at this; omega
  by_cases hnm : n = m
  · subst hnm
    have HLX := Lib.hid hlx
    have HLY := Lib.hid hly
    clear hlx hly
    have hself : ((n : Int) != (n : Int)) = false := by simp
    go_enter Tryz.func58, Tryz.ntmps58
    go_wp2_with fail
    go_loopw [13] (fun i wr => ∃ k j : Nat, k ≤ n ∧ i = .int .i64 k ∧ wr = w.drewN j ∧ Hid (∀ q, q < k → xs[q]? = ys[q]?)) (fun i _ => n - (intOf i).toNat)
    case atStart => exact ⟨0, 0, Nat.zero_le _, rfl, rfl, fun q h => absurd h (by omega)⟩
    obtain ⟨k, j, hk, rfl, rfl, HQ⟩ := hrel
    by_cases hlt : k < n
    · obtain ⟨ad, u, rfl, _, _, hu, hc⟩ := hx.at_ hlt
      obtain ⟨ad2, u2, rfl, _, _, hu2, hc2⟩ := hy.at_ hlt
      have l1 : k < xs.length := by rw [HLX.out]; exact hlt
      have l2 : k < ys.length := by rw [HLY.out]; exact hlt
      rw [bytes_get xs _ l1] at hu
      rw [bytes_get ys _ l2] at hu2
      injection hu with hu
      injection hu2 with hu2
      subst hu
      subst hu2
      have g1 := List.getElem?_eq_getElem l1
      have g2 := List.getElem?_eq_getElem l2
      generalize xs[k] = x at *
      generalize ys[k] = y at *
      have G1 := Lib.hid g1
      have G2 := Lib.hid g2
      clear g1 g2 l1 l2
      by_cases hxy : x = y
      · subst hxy
        have hxx : ((x : Int) != x) = false := by simp
        go_wp2_with fail
        go_quiet (fail)
        go_wp2_with fail
        go_roundw
        case rel =>
          refine ⟨k + 1, _, by omega, by go_num, rfl, ?_⟩
          intro q hq
          by_cases e : q = k
          · subst e; rw [G1.out, G2.out]
          · exact HQ q (by omega)
        case measure => simp [intOf]; omega
      · have hxx : (x != y) = true := by simpa using hxy
        go_wp2_with fail
        go_quiet (fail)
        go_wp2_with fail
        go_ret
        refine ⟨?_, _, World.drewN_drewN _ _ _⟩
        have : xs ≠ ys := by
          intro e
          have h1 := G1.out
          rw [e, G2.out] at h1
          injection h1 with h1
          exact hxy h1.symm
        simp [this]
    · obtain rfl : k = n := by omega
      go_wp2_with fail
      go_ret
      refine ⟨?_, _, rfl⟩
      have : xs = ys := by
        apply List.ext_getElem?
        intro q
        by_cases hq : q < k
        · exact HQ q hq
        · rw [List.getElem?_eq_none (by rw [HLX.out]; omega), List.getElem?_eq_none (by rw [HLY.out]; omega)]
      simp [this]
  · have hne : ((n : Int) != (m : Int)) = true := by simp; omega
    go_enter Tryz.func58, Tryz.ntmps58
    go_wp2_with fail
    go_ret
    refine ⟨?_, 0, rfl⟩
    have : xs ≠ ys := fun e => hnm (by rw [← hlx, ← hly, e])
    simp [this]

end Go.Proofs.YtmlfgokbcafbkaaGreatDoor

namespace Go.Proofs.YtmlfgokbcafbkaaGreatDoor
open Go.RowKit

theorem u32_wrap (n : Int) (h0 : 0 ≤ n) (h : n < 2 ^ 32) : IntKind.u32.wrap n = n := by
  have e : (2 : Int) ^ 32 = 4294967296 := rfl
  exact IntWalk.u32_in _ ⟨h0, by omega⟩
theorem xor_nat (a b : Nat) (ha : a < 4294967296) (hb : b < 4294967296) : bits .xor .u32 (a : Int) (b : Int) = ((a ^^^ b : Nat) : Int) := by
  have hx : a ^^^ b < 2 ^ 32 := Nat.xor_lt_two_pow (by omega) (by omega)
  have h1 : (BitVec.ofInt 32 (a : Int)).toNat = a := by
    rw [BitVec.ofInt_natCast, BitVec.toNat_ofNat]; exact Nat.mod_eq_of_lt (by omega)
  have h2 : (BitVec.ofInt 32 (b : Int)).toNat = b := by
    rw [BitVec.ofInt_natCast, BitVec.toNat_ofNat]; exact Nat.mod_eq_of_lt (by omega)
  show IntKind.u32.wrap ((BitVec.ofInt 32 (a : Int) ^^^ BitVec.ofInt 32 (b : Int)).toNat : Int) = _
  rw [BitVec.toNat_xor, h1, h2, IntKind.wrap_u32]
  omega
def stepN (r : Nat) : Nat := if r % 2 = 1 then (r / 2) ^^^ 3988292384 else r / 2
theorem codeStep_nat (r : Nat) (h : r < 4294967296) : codeStep (r : Int) = (stepN r : Nat) := by
  have e : bits .and .u32 (r : Int) 1 = ((r % 2 : Nat) : Int) := by
    have := (bits_nat .u32 32 (by decide) u32_wrap r 1 (by omega) (by decide)).1
    rw [Nat.and_one_is_mod] at this
    exact this
  unfold codeStep stepN
  rw [e]
  by_cases h1 : r % 2 = 1
  · rw [if_pos (by omega), if_pos h1]
    have : (r : Int) / 2 = ((r / 2 : Nat) : Int) := by omega
    rw [this]
    exact xor_nat _ 3988292384 (by omega) (by decide)
  · rw [if_neg (by omega), if_neg h1]
    omega
theorem stepN_lt (r : Nat) (h : r < 4294967296) : stepN r < 4294967296 := by
  unfold stepN
  split
  · exact Nat.xor_lt_two_pow (n := 32) (by omega) (by decide)
  · omega
theorem stepN_top (r : Nat) (h : r < 4294967296) : (stepN r).testBit 31 = decide (r % 2 = 1) := by
  have h1 : (r / 2).testBit 31 = false := Nat.testBit_lt_two_pow (by have : (2 : Nat) ^ 31 = 2147483648 := rfl; omega)
  unfold stepN
  by_cases h2 : r % 2 = 1
  · rw [if_pos h2, Nat.testBit_xor, h1, decide_eq_true h2]
    decide
  · rw [if_neg h2, h1, decide_eq_false h2]
theorem xor_cancel {a b c : Nat} (h : a ^^^ c = b ^^^ c) : a = b := by
  have := congrArg (· ^^^ c) h
  simpa [Nat.xor_assoc] using this
theorem stepN_inj {r s : Nat} (hr : r < 4294967296) (hs : s < 4294967296) (h : stepN r = stepN s) : r = s := by
  have ht := congrArg (fun z : Nat => z.testBit 31) h
  rw [stepN_top r hr, stepN_top s hs] at ht
  have h2 : r % 2 = 1 ↔ s % 2 = 1 := by simpa using ht
  unfold stepN at h
  by_cases h1 : r % 2 = 1
  · have h3 := h2.1 h1
    rw [if_pos h1, if_pos h3] at h
    have := xor_cancel h
    omega
  · have h3 : ¬ s % 2 = 1 := fun e => h1 (h2.2 e)
    rw [if_neg h1, if_neg h3] at h
    omega
def stepsN : Nat → Nat → Nat
  | 0, r => r
  | n + 1, r => stepN (stepsN n r)
theorem stepsN_lt (n r : Nat) (h : r < 4294967296) : stepsN n r < 4294967296 := by
  induction n with
  | zero => exact h
  | succ n ih => exact stepN_lt _ ih
theorem codeSteps_nat (n r : Nat) (h : r < 4294967296) : codeSteps n (r : Int) = (stepsN n r : Nat) := by
  induction n with
  | zero => rfl
  | succ n ih =>
    show codeStep (codeSteps n r) = _
    rw [ih, codeStep_nat _ (stepsN_lt n r h)]
    rfl
theorem stepsN_inj {n r s : Nat} (hr : r < 4294967296) (hs : s < 4294967296) (h : stepsN n r = stepsN n s) : r = s := by
  induction n with
  | zero => exact h
  | succ n ih => exact ih (stepN_inj (stepsN_lt n r hr) (stepsN_lt n s hs) h)
theorem codeByte_nat (r x : Nat) (hr : r < 4294967296) (hx : x < 256) : codeByte (r : Int) (x : Int) = (stepsN 8 (r ^^^ x) : Nat) := by
  unfold codeByte
  rw [xor_nat r x hr (by omega)]
  exact codeSteps_nat 8 _ (Nat.xor_lt_two_pow (n := 32) (by omega) (by have : (2:Nat)^32 = 4294967296 := rfl; omega))
theorem xor_lt (r x : Nat) (hr : r < 4294967296) (hx : x < 256) : r ^^^ x < 4294967296 := Nat.xor_lt_two_pow (n := 32) (by omega) (by have : (2:Nat)^32 = 4294967296 := rfl; omega)
theorem isU32_nat {r : Int} (h : isU32 r) : ∃ n : Nat, r = n ∧ n < 4294967296 := by
  obtain ⟨n, rfl⟩ := Int.eq_ofNat_of_zero_le h.1
  exact ⟨n, rfl, by have := h.2; omega⟩
theorem codeByte_inj {r s x : Int} (hr : isU32 r) (hs : isU32 s) (hx : 0 ≤ x ∧ x ≤ 255) (h : codeByte r x = codeByte s x) : r = s := by
  obtain ⟨a, rfl, ha⟩ := isU32_nat hr
  obtain ⟨b, rfl, hb⟩ := isU32_nat hs
  obtain ⟨y, rfl⟩ := Int.eq_ofNat_of_zero_le hx.1
  rw [codeByte_nat a y ha (by omega), codeByte_nat b y hb (by omega)] at h
  have := stepsN_inj (n := 8) (xor_lt a y ha (by omega)) (xor_lt b y hb (by omega)) (by omega)
  rw [xor_cancel this]
theorem codeByte_byte {r x y : Int} (hr : isU32 r) (hx : 0 ≤ x ∧ x ≤ 255) (hy : 0 ≤ y ∧ y ≤ 255) (h : codeByte r x = codeByte r y) : x = y := by
  obtain ⟨a, rfl, ha⟩ := isU32_nat hr
  obtain ⟨b, rfl⟩ := Int.eq_ofNat_of_zero_le hx.1
  obtain ⟨c, rfl⟩ := Int.eq_ofNat_of_zero_le hy.1
  rw [codeByte_nat a b ha (by omega), codeByte_nat a c ha (by omega)] at h
  have := stepsN_inj (n := 8) (xor_lt a b ha (by omega)) (xor_lt a c ha (by omega)) (by omega)
  rw [Nat.xor_comm a b, Nat.xor_comm a c] at this
  rw [xor_cancel this]
theorem fold_in (l : List Int) : ∀ r : Int, isU32 r → isU32 (l.foldl codeByte r) := by
  induction l with
  | nil => exact fun r h => h
  | cons x l ih => exact fun r _ => ih _ (codeByte_in r x)
theorem fold_inj (l : List Int) (hl : isBytes l) : ∀ r s : Int, isU32 r → isU32 s → l.foldl codeByte r = l.foldl codeByte s → r = s := by
  induction l with
  | nil => exact fun r s _ _ h => h
  | cons x l ih =>
    intro r s hr hs h
    exact codeByte_inj hr hs (hl x List.mem_cons_self) (ih (fun y hy => hl y (List.mem_cons_of_mem _ hy)) _ _ (codeByte_in r x) (codeByte_in s x) h)
theorem codeF_fold (l : List Int) : codeF l = bits .xor .u32 IntKind.u32.max (l.foldl codeByte 4294967295) := by
  unfold codeF codeTo
  rw [List.take_length]
/-- one changed byte changes the code -/
theorem code_changed (a b : List Int) (x y : Int) (hb : isBytes b) (hx : 0 ≤ x ∧ x ≤ 255) (hy : 0 ≤ y ∧ y ≤ 255) (hne : x ≠ y) : codeF (a ++ x :: b) ≠ codeF (a ++ y :: b) := by
  intro h
  rw [codeF_fold, codeF_fold, List.foldl_append, List.foldl_append, List.foldl_cons, List.foldl_cons] at h
  have hr : isU32 (a.foldl codeByte 4294967295) := fold_in a _ ⟨by decide, by decide⟩
  have h1 := fold_in b _ (codeByte_in (a.foldl codeByte 4294967295) x)
  have h2 := fold_in b _ (codeByte_in (a.foldl codeByte 4294967295) y)
  have key : b.foldl codeByte (codeByte (a.foldl codeByte 4294967295) x) = b.foldl codeByte (codeByte (a.foldl codeByte 4294967295) y) := by
    obtain ⟨m, e1, hm⟩ := isU32_nat h1
    obtain ⟨n, e2, hn⟩ := isU32_nat h2
    rw [e1, e2] at h ⊢
    have e3 : IntKind.u32.max = ((4294967295 : Nat) : Int) := rfl
    rw [e3, xor_nat _ m (by decide) hm, xor_nat _ n (by decide) hn, Nat.xor_comm _ m, Nat.xor_comm _ n] at h
    rw [xor_cancel (Int.ofNat.inj h)]
  exact hne (codeByte_byte hr hx hy (fold_inj b hb _ _ (codeByte_in _ _) (codeByte_in _ _) key))
end Go.Proofs.YtmlfgokbcafbkaaGreatDoor

namespace Go.Proofs.YtmlfgokbcafbkaaGreatDoor
open Go.RowKit

/-- the number of bytes, the lowest one first -/
def leF : List Int → Int
  | [] => 0
  | x :: l => x + 256 * leF l
theorem leF_snoc (l : List Int) (x : Int) : leF (l ++ [x]) = leF l + x * 256 ^ l.length := by
  induction l with
  | nil => simp [leF]
  | cons a l ih =>
    rw [List.cons_append]
    unfold leF
    rw [ih, List.length_cons, Int.pow_succ]
    have : 256 * (x * 256 ^ l.length) = x * (256 ^ l.length * 256) := by
      rw [Int.mul_left_comm, Int.mul_comm 256]
    omega
theorem leF_in (l : List Int) (h : isBytes l) : 0 ≤ leF l ∧ leF l < 256 ^ l.length := by
  induction l with
  | nil => exact ⟨Int.le_refl 0, by show (0 : Int) < 1; omega⟩
  | cons a l ih =>
    obtain ⟨h1, h2⟩ := ih (fun x hx => h x (List.mem_cons_of_mem _ hx))
    have ha := h a List.mem_cons_self
    unfold leF
    rw [List.length_cons, Int.pow_succ]
    omega
theorem leF_low2 (n : Int) : leF (lowF n 2) = n % 65536 := by
  show n % 256 + 256 * (n / 256 % 256 + 256 * 0) = _
  omega
theorem leF_low4 (n : Int) : leF (lowF n 4) = n % 4294967296 := by
  show n % 256 + 256 * (n / 256 % 256 + 256 * (n / 256 / 256 % 256 + 256 * (n / 256 / 256 / 256 % 256 + 256 * 0))) = _
  omega
theorem i64_wraps (n : Int) (h0 : 0 ≤ n) (h1 : n < 2 ^ 62) : IntKind.i64.wrap n = n := IntWalk.i64_in _ ⟨by omega, by omega⟩
/-- the bytes so far and the next one -/
theorem or_next (r x : Int) (k : Nat) (hk : k < 4) (hr : 0 ≤ r ∧ r < 256 ^ k) (hx : 0 ≤ x ∧ x ≤ 255) : bits .or .i64 r (wrap64 (x * 2 ^ (8 * k))) = r + x * 256 ^ k := by
  have hk4 : k = 0 ∨ k = 1 ∨ k = 2 ∨ k = 3 := by omega
  obtain ⟨r1, r2⟩ := hr
  obtain ⟨x1, x2⟩ := hx
  rcases hk4 with rfl | rfl | rfl | rfl
  · have e : wrap64 (x * 2 ^ (8 * 0)) = x := IntWalk.wrap64_in _ ⟨by omega, by omega⟩ |>.trans (by omega)
    rw [e, bits_join_low .i64 62 (by decide) i64_wraps 0 r x r1 (by omega) (by omega) x1 (by omega) (by omega)]
    omega
  · have e : wrap64 (x * 2 ^ (8 * 1)) = x * 256 := IntWalk.wrap64_in _ ⟨by omega, by omega⟩ |>.trans (by omega)
    rw [e, bits_join_low .i64 62 (by decide) i64_wraps 8 r (x * 256) r1 (by omega) (by omega) (by omega) (by omega) (by omega)]
    omega
  · have e : wrap64 (x * 2 ^ (8 * 2)) = x * 65536 := IntWalk.wrap64_in _ ⟨by omega, by omega⟩ |>.trans (by omega)
    rw [e, bits_join_low .i64 62 (by decide) i64_wraps 16 r (x * 65536) r1 (by omega) (by omega) (by omega) (by omega) (by omega)]
    omega
  · have e : wrap64 (x * 2 ^ (8 * 3)) = x * 16777216 := IntWalk.wrap64_in _ ⟨by omega, by omega⟩ |>.trans (by omega)
    rw [e, bits_join_low .i64 62 (by decide) i64_wraps 24 r (x * 16777216) r1 (by omega) (by omega) (by omega) (by omega) (by omega)]
    omega
theorem numTo_succ (l : List Int) (k : Nat) (h : k < l.length) : leF (l.take (k + 1)) = leF (l.take k) + l[k] * 256 ^ k := by
  rw [List.take_succ_eq_append_getElem h, leF_snoc, List.length_take, Nat.min_eq_left (Nat.le_of_lt h)]

end Go.Proofs.YtmlfgokbcafbkaaGreatDoor

namespace Go.Proofs.YtmlfgokbcafbkaaGreatDoor
open Go.RowKit

theorem lowF_mod' (n : Int) (k : Nat) (h : 0 ≤ n) (hk : n < 256 ^ k) : leF (lowF n k) = n := by
  induction k generalizing n with
  | zero =>
    have : n = 0 := by rw [Int.pow_zero] at hk; omega
    subst this; rfl
  | succ k ih =>
    rw [Int.pow_succ] at hk
    show n % 256 + 256 * leF (lowF (n / 256) k) = n
    rw [ih (n / 256) (by omega) (by omega)]
    omega
def sealM (b : List Int) : List Int := lowF (codeF b) 4 ++ b
def intactM (l : List Int) : Prop := leF (l.take 4) = codeF (l.drop 4)
theorem leF_lowF4 (r : Int) (h : isU32 r) : leF (lowF r 4) = r := lowF_mod' _ _ h.1 (by have : (256 : Int) ^ 4 = 4294967296 := rfl; have := h.2; omega)
theorem sealM_intact (b : List Int) : intactM (sealM b) := by
  unfold intactM sealM
  rw [List.take_left' (lowF_length _ _), List.drop_left' (lowF_length _ _)]
  exact leF_lowF4 _ (codeF_in b)
theorem leF_inj : ∀ (a b : List Int), isBytes a → isBytes b → a.length = b.length → leF a = leF b → a = b
  | [], [], _, _, _, _ => rfl
  | [], _ :: _, _, _, h, _ => by cases h
  | _ :: _, [], _, _, h, _ => by cases h
  | x :: a, y :: b, ha, hb, h, he => by
    have hx := ha x List.mem_cons_self
    have hy := hb y List.mem_cons_self
    unfold leF at he
    have e1 : x = y := by omega
    have e2 : leF a = leF b := by omega
    rw [e1, leF_inj a b (fun z hz => ha z (List.mem_cons_of_mem _ hz)) (fun z hz => hb z (List.mem_cons_of_mem _ hz)) (by simpa using h) e2]
/-- one changed byte breaks the seal -/
theorem sealM_broken (b : List Int) (hb : isBytes b) (p : Nat) (hp : p < (sealM b).length) (y : Int) (hy : 0 ≤ y ∧ y ≤ 255) (hne : (sealM b)[p] ≠ y) : ¬ intactM ((sealM b).set p y) := by
  have hl4 : (lowF (codeF b) 4).length = 4 := lowF_length _ _
  intro h
  unfold intactM at h
  by_cases hp4 : p < 4
  · have e : (sealM b).set p y = (lowF (codeF b) 4).set p y ++ b := by
      unfold sealM
      rw [List.set_append_left _ _ (by rw [hl4]; exact hp4)]
    have hl : ((lowF (codeF b) 4).set p y).length = 4 := by rw [List.length_set, hl4]
    rw [e, List.take_left' hl, List.drop_left' hl] at h
    replace h := h.trans (leF_lowF4 _ (codeF_in b)).symm
    have hby : isBytes ((lowF (codeF b) 4).set p y) := fun z hz => by
      rcases List.mem_or_eq_of_mem_set hz with h1 | h1
      · exact lowF_bytes _ _ z h1
      · rw [h1]; exact hy
    have := leF_inj _ _ hby (lowF_bytes _ _) (by rw [hl, hl4]) h
    have h2 := congrArg (fun l : List Int => l[p]?) this
    simp only [List.getElem?_set_self (show p < (lowF (codeF b) 4).length by rw [hl4]; exact hp4)] at h2
    refine hne ?_
    have e3 : (sealM b)[p]? = (lowF (codeF b) 4)[p]? := by
      unfold sealM
      exact List.getElem?_append_left (by rw [hl4]; exact hp4)
    rw [List.getElem?_eq_getElem hp, ← h2] at e3
    exact Option.some.inj e3
  · have hpb : p - 4 < b.length := by
      unfold sealM at hp
      rw [List.length_append, hl4] at hp
      omega
    have e : (sealM b).set p y = lowF (codeF b) 4 ++ b.set (p - 4) y := by
      unfold sealM
      rw [List.set_append_right _ _ (by rw [hl4]; omega), hl4]
    rw [e, List.take_left' hl4, List.drop_left' hl4, leF_lowF4 _ (codeF_in b)] at h
    have hx : (sealM b)[p] = b[p - 4] := by
      have e3 : (sealM b)[p]? = b[p - 4]? := by
        unfold sealM
        rw [List.getElem?_append_right (by rw [hl4]; omega), hl4]
      rw [List.getElem?_eq_getElem hp, List.getElem?_eq_getElem hpb] at e3
      exact Option.some.inj e3
    rw [hx] at hne
    have hcut : b = b.take (p - 4) ++ b[p - 4] :: b.drop (p - 4 + 1) := by
      rw [← List.drop_eq_getElem_cons hpb, List.take_append_drop]
    have hset : b.set (p - 4) y = b.take (p - 4) ++ y :: b.drop (p - 4 + 1) := by
      rw [List.set_eq_take_append_cons_drop, if_pos hpb]
    rw [hset] at h
    conv at h => lhs; rw [hcut]
    exact code_changed _ _ _ _ (isBytes_drop' hb _) (hb _ (List.getElem_mem hpb)) hy hne h
where
  isBytes_drop' {l : List Int} (h : isBytes l) (k : Nat) : isBytes (l.drop k) := fun x hx => h x (List.mem_of_mem_drop hx)

/-! ### the parts -/
def splits : List Nat → List Int → List (List Int)
  | [], _ => []
  | s :: ss, b => b.take s :: splits ss (b.drop s)
theorem splits_length (ss : List Nat) : ∀ b, (splits ss b).length = ss.length := by
  induction ss with
  | nil => intro b; rfl
  | cons s ss ih => intro b; simp [splits, ih]
theorem splits_flatten (ss : List Nat) : ∀ b : List Int, ss.sum = b.length → (splits ss b).flatten = b := by
  induction ss with
  | nil => intro b h; simp at h; simp [splits, List.eq_nil_of_length_eq_zero h.symm]
  | cons s ss ih =>
    intro b h
    simp only [List.sum_cons] at h
    unfold splits
    rw [List.flatten_cons, ih _ (by rw [List.length_drop]; omega), List.take_append_drop]
def sizeF (n k i : Nat) : Nat := n / k + if i < n % k then 1 else 0
def sizesF (n k : Nat) : List Nat := (List.range k).map (sizeF n k)
theorem sizes_to (n k : Nat) : ∀ m, ((List.range m).map (sizeF n k)).sum = m * (n / k) + min m (n % k) := by
  intro m
  induction m with
  | zero => simp
  | succ m ih =>
    rw [List.range_succ, List.map_append, List.sum_append, ih]
    simp only [List.map_cons, List.map_nil, List.sum_cons, List.sum_nil, sizeF]
    rw [Nat.succ_mul]
    split <;> omega
theorem sizes_sum (n k : Nat) (hk : 1 ≤ k) : (sizesF n k).sum = n := by
  unfold sizesF
  rw [sizes_to, Nat.min_eq_right (Nat.le_of_lt (Nat.mod_lt _ hk))]
  exact Nat.div_add_mod n k
def partsM (b : List Int) (k : Nat) : List (List Int) := splits (sizesF b.length k) b
theorem parts_length (b : List Int) (k : Nat) : (partsM b k).length = k := by simp [partsM, splits_length, sizesF]
theorem parts_flatten (b : List Int) (k : Nat) (hk : 1 ≤ k) : (partsM b k).flatten = b := splits_flatten _ _ (sizes_sum _ _ hk)
def shardM (id n i : Int) (part : List Int) : List Int := sealM ([119, 115] ++ lowF id 4 ++ [i, n] ++ part)
end Go.Proofs.YtmlfgokbcafbkaaGreatDoor

namespace Go.Proofs.YtmlfgokbcafbkaaGreatDoor
open Go.RowKit

theorem low4 (n : Int) : lowF n 4 = [n % 256, n / 256 % 256, n / 65536 % 256, n / 16777216 % 256] := by
  show [n % 256, n / 256 % 256, n / 256 / 256 % 256, n / 256 / 256 / 256 % 256] = _
  have e1 : n / 256 / 256 = n / 65536 := by omega
  have e2 : n / 65536 / 256 = n / 16777216 := by omega
  rw [e1, e2]
set_option maxRecDepth 100000 in
set_option maxHeartbeats 1000000 in
theorem number4_any (w : World) (n : Int) (h0 : 0 ≤ n) (h1 : n ≤ 4294967295) :
    Calls Tryz.prog 27 #[.int .i64 n] w (RetFresh w 5 1 4 (bytes (lowF n 4))) := by
  go_enter Tryz.func27, Tryz.ntmps27
  go_wp2_with fail
  go_ret
  have e : n / 16777216 % 256 = n / 16777216 := by omega
  have ho := own_lit w (fun g => w.heap.size ≤ g) 5 (bytes (lowF n 4)) 4 (by decide) (by rw [low4]; rfl) (Nat.le_refl _)
  rw [low4, e] at ho ⊢
  exact ⟨_, rfl, ho, (Below.refl _ _).alloc (Nat.le_refl _) _⟩

set_option maxRecDepth 100000 in
set_option maxHeartbeats 1000000 in
theorem mseal_any (w : World) (T : Nat → Prop) (A : Option Addr) (c : Nat) (xs : List Int) (hr : Reads w T 1 A xs.length (bytes xs)) (hn : xs.length ≤ 1000000) (hx : isBytes xs) :
    Calls Tryz.prog 28 #[.slice A xs.length c] w (RetFresh w 5 1 (4 + xs.length) (bytes (sealM xs))) := by
  obtain ⟨i0, hi, hz0, hz1, hz2⟩ := info_parts u8_info
  have HC := Lib.hid (code_any w T A c xs hr (by omega) hx)
  obtain ⟨y1, y2⟩ := codeF_in xs
  have HS : Hid (bytes (sealM xs) = bytes (lowF (codeF xs) 4) ++ bytes xs) := Lib.hid (bytes_append _ _)
  have HR := Lib.hid hr.old
  generalize codeF xs = cf at *
  generalize sealM xs = sx at *
  generalize hn' : xs.length = n at *
  have HN := Lib.hid hn'
  clear hn' hr hx
  go_enter Tryz.func28, Tryz.ntmps28
  go_wp2_with fail
  refine HC.out.mono ?_
  rintro e w' ⟨rfl, rfl⟩
  go_wp2_with fail
  refine (number4_any _ cf y1 y2).mono ?_
  rintro e w1 ⟨v, rfl, ho, hb⟩
  have HO := Lib.hid ho
  have HB := Lib.hid hb
  have HR1 := Lib.hid (HR.out.fresh hb)
  clear ho hb
  go_wp2_with (at_builtin; go_must (refine wpList_append_any _ rfl _ _ 34 rfl 5 i0 _ 1 1 Tryz.underlying34 hi hz0 hz1 hz2 rfl (by omega) v _ _ rfl HO.out _ n c _ rfl HR1.out (bytes_one _) (by unfold maxLen; omega) (by omega) ?_); intro v' w2 happ)
  obtain ⟨o1, o2⟩ := appBelow happ (B := w.heap.size) HB.out.size (fun g hg => HO.out.2 g hg)
  go_ret
  exact ⟨_, rfl, by rw [HS.out]; exact o1, HB.out.trans (o2.mono (Nat.le_refl _))⟩
end Go.Proofs.YtmlfgokbcafbkaaGreatDoor

namespace Go.Proofs.YtmlfgokbcafbkaaGreatDoor
open Go.RowKit

theorem bytes_drop' (l : List Int) (k : Nat) : bytes (l.drop k) = (bytes l).drop k := by simp [bytes, List.map_drop]
theorem or_four (a0 a1 a2 a3 : Int) (h0 : 0 ≤ a0 ∧ a0 ≤ 255) (h1 : 0 ≤ a1 ∧ a1 ≤ 255) (h2 : 0 ≤ a2 ∧ a2 ≤ 255) (h3 : 0 ≤ a3 ∧ a3 ≤ 255) :
    bits .or .i64 (bits .or .i64 (bits .or .i64 a0 (a1 * 256)) (a2 * 65536)) (a3 * 16777216) = leF [a0, a1, a2, a3] := by
  have iw : ∀ n : Int, 0 ≤ n → n < 2 ^ 62 → IntKind.i64.wrap n = n := fun n h0 h1 => IntWalk.i64_in _ ⟨by omega, by omega⟩
  rw [bits_join_low .i64 62 (by decide) iw 8 a0 (a1 * 256) (by omega) (by omega) (by omega) (by omega) (by omega) (by omega),
    bits_join_low .i64 62 (by decide) iw 16 (a0 + a1 * 256) (a2 * 65536) (by omega) (by omega) (by omega) (by omega) (by omega) (by omega),
    bits_join_low .i64 62 (by decide) iw 24 (a0 + a1 * 256 + a2 * 65536) (a3 * 16777216) (by omega) (by omega) (by omega) (by omega) (by omega) (by omega)]
  show _ = a0 + 256 * (a1 + 256 * (a2 + 256 * (a3 + 256 * 0)))
  omega
set_option maxRecDepth 100000 in
set_option maxHeartbeats 1000000 in
theorem read4_any (w : World) (T : Nat → Prop) (A : Option Addr) (c n : Nat) (xs : List Int) (hr : Reads w T 1 A n (bytes xs)) (hn : 4 ≤ n) (hx : isBytes xs) :
    Calls Tryz.prog 41 #[.slice A n c] w fun e w' => e = .returned (.int .i64 (leF (xs.take 4))) ∧ ∃ k, w' = w.drewN k := by
  have hl : xs.length = n := by have := hr.1; rw [bytes_length] at this; omega
  obtain ⟨ad, rfl, -, -, hcell⟩ := hr.2 (by omega)
  have g : ∀ i (h : i < 4), w.cell? (ad.add i) = some (.int .u8 (xs[i]'(by omega))) := fun i h => hcell i _ (bytes_get xs i (by omega))
  have c0 := g 0 (by omega)
  have c1 := g 1 (by omega)
  have c2 := g 2 (by omega)
  have c3 := g 3 (by omega)
  have x0 := hx _ (List.getElem_mem (show 0 < xs.length by omega))
  have x1 := hx _ (List.getElem_mem (show 1 < xs.length by omega))
  have x2 := hx _ (List.getElem_mem (show 2 < xs.length by omega))
  have x3 := hx _ (List.getElem_mem (show 3 < xs.length by omega))
  have e4 : xs.take 4 = [xs[0]'(by omega), xs[1]'(by omega), xs[2]'(by omega), xs[3]'(by omega)] := by
    rw [List.take_succ_eq_append_getElem (show 3 < xs.length by omega), List.take_succ_eq_append_getElem (show 2 < xs.length by omega), List.take_succ_eq_append_getElem (show 1 < xs.length by omega), List.take_succ_eq_append_getElem (show 0 < xs.length by omega)]
    rfl
  rw [e4]
  generalize xs[0]'(by omega) = a0 at *
  generalize xs[1]'(by omega) = a1 at *
  generalize xs[2]'(by omega) = a2 at *
  generalize xs[3]'(by omega) = a3 at *
  rw [show ad.add 0 = ad by simp [Addr.add]] at c0
  rw [show ad.add 1 = { block := ad.block, off := ad.off + 1 } from rfl] at c1
  rw [show ad.add 2 = { block := ad.block, off := ad.off + 2 } from rfl] at c2
  rw [show ad.add 3 = { block := ad.block, off := ad.off + 3 } from rfl] at c3
  obtain ⟨p0, q0⟩ := x0
  obtain ⟨p1, q1⟩ := x1
  obtain ⟨p2, q2⟩ := x2
  obtain ⟨p3, q3⟩ := x3
  have k0 : 0 < n := by omega
  have k1 : 1 < n := by omega
  have k2 : 2 < n := by omega
  have k3 : 3 < n := by omega
  clear g e4 hcell hr hx hl
  go_enter Tryz.func41, Tryz.ntmps41
  go_wp2_with fail
  go_quiet (fail)
  go_wp2_with fail
  go_ret
  exact ⟨congrArg (fun z => Ending.returned (.int .i64 z)) (or_four a0 a1 a2 a3 ⟨p0, q0⟩ ⟨p1, q1⟩ ⟨p2, q2⟩ ⟨p3, q3⟩), nq, rfl⟩

theorem quiet_more {P : Program} {f : FuncId} {args : Array Value} {w : World} {n : Nat} {v : Value}
    (h : Calls P f args (w.drewN n) fun e w' => e = .returned v ∧ ∃ k, w' = (w.drewN n).drewN k) : Calls P f args (w.drewN n) fun e w'' => e = .returned v ∧ ∃ m, w'' = w.drewN m :=
  h.mono fun _ _ ⟨he, k, hk⟩ => ⟨he, n + k, by rw [hk, World.drewN_drewN]⟩
set_option maxRecDepth 100000 in
set_option maxHeartbeats 1000000 in
theorem intact_any (w : World) (T : Nat → Prop) (A : Option Addr) (c n : Nat) (xs : List Int) (hr : Reads w T 1 A n (bytes xs)) (hn : 5 ≤ n) (hn2 : n ≤ 1000000) (hc : n ≤ c) (hx : isBytes xs) :
    Calls Tryz.prog 32 #[.slice A n c] w fun e w' => e = .returned (.bool (leF (xs.take 4) == codeF (xs.drop 4))) ∧ ∃ k, w' = w.drewN k := by
  have hl : xs.length = n := by have := hr.1; rw [bytes_length] at this; omega
  obtain ⟨ad, rfl, -⟩ := hr.2 (by omega)
  have hcut := Reads.cut hr (k := 4) (cap := c) (by omega) hc
  have h4 : ¬ c = 4 := by omega
  rw [if_neg h4, Nat.mul_one, ← bytes_drop', Option.map_some, show ad.add 4 = { block := ad.block, off := ad.off + 4 } from rfl] at hcut
  have hdl : (xs.drop 4).length = n - 4 := by rw [List.length_drop, hl]
  have H1 := Lib.hid (fun k => read4_any (w.drewN k) T (some ad) c n xs (hr.drewN k) (by omega) hx)
  have hc2 := fun k c' => code_any (w.drewN k) T (some { block := ad.block, off := ad.off + 4 }) c' (xs.drop 4) (by rw [hdl]; exact hcut.drewN k) (by omega) (fun z hz => hx z (List.mem_of_mem_drop hz))
  rw [hdl] at hc2
  have H2 := Lib.hid hc2
  generalize leF (xs.take 4) = x at *
  generalize codeF (xs.drop 4) = y at *
  clear hc2 hcut hdl hl hr hx
  go_enter Tryz.func32, Tryz.ntmps32
  go_wp2_with fail
  go_quiet (first
    | (go_at_call 41; with_reducible exact quiet_more (H1.out _))
    | (go_at_call 25; with_reducible exact quiet_left (H2.out _ _)))
  go_wp2_with fail
  go_ret
  exact ⟨rfl, nq, rfl⟩
end Go.Proofs.YtmlfgokbcafbkaaGreatDoor

namespace Go.Proofs.YtmlfgokbcafbkaaGreatDoor
open Go.RowKit

set_option maxRecDepth 100000 in
set_option maxHeartbeats 1000000 in
theorem equal1_any (w : World) (T T' : Nat → Prop) (a b : Nat) (i j : Nat) (u v : Value) (l : List Int) (ha : w.cell? ⟨a, i, none⟩ = some u) (hb : w.cell? ⟨b, j, none⟩ = some v) (hu : Slc w T u l) (hv : Slc w T' v l) (hl : l.length ≤ 1000000) :
    Calls Tryz.prog 37 #[.pointer (some ⟨a, i, none⟩), .pointer (some ⟨b, j, none⟩)] w fun e w' => e = .returned (.bool true) ∧ ∃ k, w' = w.drewN k := by
  obtain ⟨A, c, rfl, hx, -⟩ := hu
  obtain ⟨B, d, rfl, hy, -⟩ := hv
  have HE := Lib.hid (fun k => eqInts_any (w.drewN k) T T' A B l.length l.length c d l l (hx.drewN k) (hy.drewN k) hl)
  clear hx hy
  go_enter Tryz.func37, Tryz.ntmps37
  go_wp2_with fail
  go_quiet ((go_at_call 38; have h := HE.out; simp only [decide_true] at h; exact quiet_more (h _)))
  go_wp2_with fail
  go_ret
  exact ⟨rfl, nq, rfl⟩
def ptrs7 (b : Nat) : Array Value := #[.pointer (some ⟨b, 4, none⟩), .pointer (some ⟨b, 5, none⟩), .pointer (some ⟨b, 6, none⟩), .pointer (some ⟨b, 7, none⟩), .pointer (some ⟨b, 8, none⟩), .pointer (some ⟨b, 9, none⟩), .pointer (some ⟨b, 10, none⟩)]
theorem ptrs7_get (b k : Nat) (h : k < 7) : (ptrs7 b)[k]? = some (.pointer (some ⟨b, 4 + k, none⟩)) := by
  match k, h with
  | 0, _ => rfl
  | 1, _ => rfl
  | 2, _ => rfl
  | 3, _ => rfl
  | 4, _ => rfl
  | 5, _ => rfl
  | 6, _ => rfl
theorem cellsTo_at (M0 M1 M2 M3 : Int) (vs : List Value) (k : Nat) (h : vs.length = 7) (hk : k < 7) : (cellsTo M0 M1 M2 M3 vs 7)[4 + k]? = vs[k]? := by
  unfold cellsTo
  rw [Array.getElem?_append_right (by simp), List.getElem?_toArray, List.getElem?_append_left (by simp; omega)]
  simp
set_option maxRecDepth 100000 in
set_option maxHeartbeats 1000000 in
theorem equalFunc_any (w : World) (T T' : Nat → Prop) (p q a b : Nat) (M : Model) (x0 x1 x2 x3 y0 y1 y2 y3 : Int) (us vs : List Value) (hp : Blk w p 70 (ptrs7 a)) (hq : Blk w q 70 (ptrs7 b)) (ha : Blk w a 27 (cellsTo x0 x1 x2 x3 us 7)) (hb : Blk w b 27 (cellsTo y0 y1 y2 y3 vs 7))
    (hu : Rows w T us M.ls) (hv : Rows w T' vs M.ls) (hM : M.Ok) :
    Calls Tryz.prog 35 #[.slice (some ⟨p, 0, none⟩) 7 7, .slice (some ⟨q, 0, none⟩) 7 7, .func (.func 37) #[] #[]] w fun e w' => e = .returned (.bool true) ∧ ∃ k, w' = w.drewN k := by
  have HP := Lib.hid hp
  have HQ := Lib.hid hq
  have HA := Lib.hid ha
  have HB := Lib.hid hb
  have HU := Lib.hid hu
  have HV := Lib.hid hv
  have HM := Lib.hid hM
  clear hp hq ha hb hu hv hM
  go_enter Tryz.func35, Tryz.ntmps35
  go_wp2_with fail
  go_loopw [17] (fun i wr => ∃ k j : Nat, k ≤ 7 ∧ i = .int .i64 k ∧ wr = w.drewN j) (fun i _ => 7 - (intOf i).toNat)
  case atStart => exact ⟨0, 0, by omega, rfl, rfl⟩
  obtain ⟨k, j, hk, rfl, rfl⟩ := hrel
  by_cases hlt : k < 7
  · have hkl : k < M.ls.length := hlt
    have c1 : (w.drewN j).cell? ⟨p, k, none⟩ = some (.pointer (some ⟨a, 4 + k, none⟩)) := ((HP.out.drewN j).cell k).trans (ptrs7_get a k hlt)
    have c2 : (w.drewN j).cell? ⟨q, k, none⟩ = some (.pointer (some ⟨b, 4 + k, none⟩)) := ((HQ.out.drewN j).cell k).trans (ptrs7_get b k hlt)
    have hul : us.length = 7 := HU.out.1
    have hvl : vs.length = 7 := HV.out.1
    obtain ⟨u, hu1, hu2⟩ := HU.out.2 k hkl
    obtain ⟨v, hv1, hv2⟩ := HV.out.2 k hkl
    have d1 : (w.drewN j).cell? ⟨a, 4 + k, none⟩ = some u := ((HA.out.drewN j).cell (4 + k)).trans ((cellsTo_at _ _ _ _ us k hul hlt).trans hu1)
    have d2 : (w.drewN j).cell? ⟨b, 4 + k, none⟩ = some v := ((HB.out.drewN j).cell (4 + k)).trans ((cellsTo_at _ _ _ _ vs k hvl hlt).trans hv1)
    have HE := Lib.hid (equal1_any (w.drewN j) T T' a b (4 + k) (4 + k) u v _ d1 d2 (hu2.drewN j) (hv2.drewN j) (by have := (HM.out.small _ (List.getElem_mem hkl)).1; omega))
    clear d1 d2 hu1 hu2 hv1 hv2 hul hvl hkl
    go_wp2_with fail
    refine HE.out.mono ?_
    rintro e w2 ⟨rfl, m, rfl⟩
    go_wp2_with fail
    go_roundw
    case rel => exact ⟨k + 1, _, by omega, by go_num, rfl⟩
    case measure => simp [intOf]; omega
  · obtain rfl : k = 7 := by omega
    go_wp2_with fail
    go_ret
    exact ⟨rfl, j, rfl⟩

set_option maxRecDepth 100000 in
set_option maxHeartbeats 1000000 in
theorem equal_model (w : World) (T T' : Nat → Prop) (M : Model) (u4 u5 u6 u7 u8 u9 u10 v4 v5 v6 v7 v8 v9 v10 : Value) (hu : MSl w T M u4 u5 u6 u7 u8 u9 u10) (hv : MSl w T' M v4 v5 v6 v7 v8 v9 v10) (hM : M.Ok) :
    Calls Tryz.prog 11 #[.agg #[.int .i64 M.kind, .int .i64 M.vocab, .int .i64 M.width, .int .i64 M.top, u4, u5, u6, u7, u8, u9, u10], .agg #[.int .i64 M.kind, .int .i64 M.vocab, .int .i64 M.width, .int .i64 M.top, v4, v5, v6, v7, v8, v9, v10]] w fun e w' => e = .returned (.bool true) ∧ Below w.heap.size w w' := by
  have HMU := Lib.hid hu.old.rows
  have HMV := Lib.hid hv.old.rows
  have HM := Lib.hid hM
  clear hu hv hM
  go_enter Tryz.func11, Tryz.ntmps11
  go_upto_region 1 with (fail)
  obtain ⟨ka, kb, hb0, hz0⟩ := blk_two w 27 27 #[.int .i64 M.kind, .int .i64 M.vocab, .int .i64 M.width, .int .i64 M.top, u4, u5, u6, u7, u8, u9, u10] #[.int .i64 M.kind, .int .i64 M.vocab, .int .i64 M.width, .int .i64 M.top, v4, v5, v6, v7, v8, v9, v10]
  generalize ((w.alloc (.cells #[.int .i64 M.kind, .int .i64 M.vocab, .int .i64 M.width, .int .i64 M.top, u4, u5, u6, u7, u8, u9, u10] 27)).alloc (.cells #[.int .i64 M.kind, .int .i64 M.vocab, .int .i64 M.width, .int .i64 M.top, v4, v5, v6, v7, v8, v9, v10] 27)) = W at *
  obtain ⟨a, ha⟩ : ∃ g, g = w.heap.size := ⟨_, rfl⟩
  obtain ⟨b, hb⟩ : ∃ g, g = w.heap.size + 1 := ⟨_, rfl⟩
  rw [← ha] at ka
  rw [← hb] at kb
  rw [← hb, ← ha]
  have l1 : a < b := by omega
  have l2 : b < W.heap.size := by omega
  have KA := Lib.hid ka
  have KB := Lib.hid kb
  have HB0 := Lib.hid hb0
  have HA := Lib.hid ha
  have a0 := ka.cell 0
  have a1 := ka.cell 1
  have a2 := ka.cell 2
  have a3 := ka.cell 3
  have b0 := kb.cell 0
  have b1 := kb.cell 1
  have b2 := kb.cell 2
  have b3 := kb.cell 3
  have HUW := Lib.hid (HMU.out.fresh hb0)
  have HVW := Lib.hid (HMV.out.fresh hb0)
  have hself : ∀ x : Int, (x != x) = false := fun x => by simp
  clear ka kb hb0 hz0 ha hb
  go_wp2_with fail
  clear a0 a1 a2 a3 b0 b1 b2 b3 hself
  refine (lists_any W a _ KA.out).mono ?_
  rintro e w1 ⟨rfl, hw1⟩
  have hb1 : Below W.heap.size W w1 := by rw [hw1]; exact ((Below.refl _ _).drew).alloc (by simp) _
  have kp : Blk w1 W.heap.size 70 (ptrs7 a) := by rw [hw1]; exact Blk.new W.drew _ _
  have HB1 := Lib.hid hb1
  have HKP := Lib.hid kp
  have HKA1 := Lib.hid (KA.out.below hb1 KA.out.lt)
  have HKB1 := Lib.hid (KB.out.below hb1 KB.out.lt)
  clear hw1 hb1 kp
  go_wp2_with fail
  refine (lists_any w1 b _ HKB1.out).mono ?_
  rintro e w2 ⟨rfl, hw2⟩
  have hb2 : Below w1.heap.size w1 w2 := by rw [hw2]; exact ((Below.refl _ _).drew).alloc (by simp) _
  have kq : Blk w2 w1.heap.size 70 (ptrs7 b) := by rw [hw2]; exact Blk.new w1.drew _ _
  have HEF := Lib.hid (equalFunc_any w2 _ _ W.heap.size w1.heap.size a b M _ _ _ _ _ _ _ _ [u4, u5, u6, u7, u8, u9, u10] [v4, v5, v6, v7, v8, v9, v10] (HKP.out.below hb2 HKP.out.lt) kq (HKA1.out.below hb2 HKA1.out.lt) (HKB1.out.below hb2 HKB1.out.lt) ((HUW.out.fresh HB1.out).fresh hb2) ((HVW.out.fresh HB1.out).fresh hb2) HM.out)
  have HB2 := Lib.hid (((Keeps.of_below HB0.out (fun _ => False)).fresh HB1.out).fresh hb2)
  clear hw2 hb2 kq
  go_wp2_with fail
  refine HEF.out.mono ?_
  rintro e w3 ⟨rfl, m, rfl⟩
  go_wp2_with fail
  go_ret
  exact ⟨rfl, (HB2.out.drewN m).to_below⟩
end Go.Proofs.YtmlfgokbcafbkaaGreatDoor

namespace Go.Proofs.YtmlfgokbcafbkaaGreatDoor
open Go.RowKit

def fileM (M : Model) : List Int := sealM ([119, 109, 2] ++ modelBytes M)
theorem fileM_length (M : Model) : (fileM M).length = 7 + (modelBytes M).length := by
  unfold fileM sealM
  rw [List.length_append, lowF_length]
  simp; omega
theorem fileM_bytes (M : Model) : isBytes (fileM M) := isBytes_append (lowF_bytes _ _) (isBytes_append (by intro x hx; simp at hx; omega) (modelBytes_bytes M))
set_option maxRecDepth 100000 in
set_option maxHeartbeats 1000000 in
theorem write_any (w : World) (T : Nat → Prop) (M : Model) (v4 v5 v6 v7 v8 v9 v10 : Value) (h : MSl w T M v4 v5 v6 v7 v8 v9 v10) (hM : M.Ok) :
    Calls Tryz.prog 7 #[.agg #[.int .i64 M.kind, .int .i64 M.vocab, .int .i64 M.width, .int .i64 M.top, v4, v5, v6, v7, v8, v9, v10], .int .i64 2] w fun e w' => ∃ v, e = .returned (.tuple #[v, .int .i64 0]) ∧ Own w' (fun g => w.heap.size ≤ g) 5 1 v (fileM M).length (bytes (fileM M)) ∧ Below w.heap.size w w' := by
  obtain ⟨i0, hi, hz0, hz1, hz2⟩ := info_parts u8_info
  have hi27 : (Tryz.prog.info? 27).map (·.size) = some 11 := by kernel_rfl
  have HMS := Lib.hid h.old
  have HMO := Lib.hid hM
  have hln := modelBytes_length M hM
  clear h hM
  go_enter Tryz.func7, Tryz.ntmps7
  go_upto_region 1 with (fail)
  have kb := Blk.new w 27 #[.int .i64 M.kind, .int .i64 M.vocab, .int .i64 M.width, .int .i64 M.top, v4, v5, v6, v7, v8, v9, v10]
  have hb0 := (Below.refl w.heap.size w).alloc (Nat.le_refl _) (.cells #[.int .i64 M.kind, .int .i64 M.vocab, .int .i64 M.width, .int .i64 M.top, v4, v5, v6, v7, v8, v9, v10] 27)
  generalize (w.alloc (.cells #[.int .i64 M.kind, .int .i64 M.vocab, .int .i64 M.width, .int .i64 M.top, v4, v5, v6, v7, v8, v9, v10] 27)) = W at *
  obtain ⟨b, hb⟩ : ∃ g, g = w.heap.size := ⟨_, rfl⟩
  rw [← hb] at kb
  rw [← hb]
  have HC := Lib.hid (MSl.checkedOk W (HMS.out.fresh hb0) HMO.out)
  have KB := Lib.hid kb
  have HB0 := Lib.hid hb0
  have HB := Lib.hid hb
  clear kb hb0 hb
  go_wp2_with (first
    | (refine wpList_load_blk rfl 27 _ rfl b rfl 27 _ _ KB.out Tryz.underlying27 rfl hi27 ?_))
  refine HC.out.mono ?_
  rintro e w1 ⟨rfl, hb1⟩
  have HB1 := Lib.hid ((Keeps.of_below HB0.out (fun _ => False)).fresh hb1)
  have KB1 := Lib.hid (KB.out.below hb1 KB.out.lt)
  have HM1 := Lib.hid ((HMS.out.fresh HB0.out).fresh hb1)
  clear hb1 HC KB
  go_wp2_with (first
    | (refine wpList_load_blk rfl 27 _ rfl b rfl 27 _ _ ((KB1.out).alloc _) Tryz.underlying27 rfl hi27 ?_))
  have hz1' := HB1.out.size
  have ho0 : Own (w1.alloc (.cells #[.int .u8 119, .int .u8 109, .int .u8 2] 5)) (fun g => w.heap.size ≤ g) 5 1 (.slice (some ⟨w1.heap.size, 0, none⟩) 3 3) 3 (bytes [119, 109, 2]) := own_lit w1 _ 5 (bytes [119, 109, 2]) 3 (by decide) rfl hz1'
  have HB2 := Lib.hid (HB1.out.alloc (.cells #[.int .u8 119, .int .u8 109, .int .u8 2] 5))
  refine (bytesOf_any _ _ M _ _ _ _ _ _ _ (HM1.out.alloc _) HMO.out).mono ?_
  rintro e w3 ⟨v, rfl, ho, hb⟩
  obtain ⟨A, cap, rfl, -, -⟩ := ho.shape
  have HO0 := Lib.hid (ho0.fresh hb)
  have HR := Lib.hid ho.reads
  have HB3 := Lib.hid (HB2.out.fresh hb)
  have HL : Hid (([119, 109, 2] ++ modelBytes M : List Int).length = 3 + (modelBytes M).length) := Lib.hid (by rw [List.length_append]; rfl)
  have HF : Hid (fileM M = sealM ([119, 109, 2] ++ modelBytes M)) := Lib.hid rfl
  have HLF := Lib.hid (fileM_length M)
  have HBY := Lib.hid (isBytes_append (a := [119, 109, 2]) (by intro x hx; simp at hx; omega) (modelBytes_bytes M))
  generalize (modelBytes M).length = N at *
  obtain ⟨mb, hmb⟩ : ∃ m, m = modelBytes M := ⟨_, rfl⟩
  rw [← hmb] at HR HL HF HBY
  clear hb ho ho0 HB2 HB1 hmb KB1 HM1
  go_wp2_with (at_builtin; go_must (refine wpList_append_any _ rfl _ _ 34 rfl 5 i0 _ 1 1 Tryz.underlying34 hi hz0 hz1 hz2 rfl (by omega) _ _ _ rfl HO0.out _ N cap _ rfl HR.out (bytes_one _) (by unfold maxLen; omega) (by omega) ?_); intro v' w4 happ)
  obtain ⟨o1, o2⟩ := appBelow happ (B := w.heap.size) HB3.out.size (fun g hg => HO0.out.2 g hg)
  obtain ⟨A', cap', rfl, -, -⟩ := o1.shape
  have hrd := o1.reads
  have hbe : bytes [119, 109, 2] ++ bytes mb = bytes ([119, 109, 2] ++ mb) := (bytes_append _ _).symm
  rw [hbe] at hrd
  have hsl := mseal_any w4 _ A' cap' ([119, 109, 2] ++ mb) (by rw [HL.out]; exact hrd) (by rw [HL.out]; omega) HBY.out
  rw [HL.out, ← HF.out] at hsl
  have HSL := Lib.hid hsl
  have HB4 := Lib.hid (HB3.out.below o2 (fun i hi h => by omega))
  clear happ o1 o2 hrd hbe hsl HO0 HR HB3
  go_wp2_with fail
  refine HSL.out.mono ?_
  rintro e w5 ⟨v, rfl, ho, hb⟩
  have HO := Lib.hid ho
  have HB5 := Lib.hid (HB4.out.fresh hb)
  have hz4 := HB4.out.size
  clear ho hb
  go_wp2_with fail
  go_ret2
  refine ⟨v, rfl, ?_, HB5.out.to_below⟩
  rw [HLF.out, show 7 + N = 4 + (3 + N) by omega]
  exact HO.out.more (fun g _ h => by omega)
end Go.Proofs.YtmlfgokbcafbkaaGreatDoor

namespace Go.Proofs.YtmlfgokbcafbkaaGreatDoor
open Go.RowKit

set_option maxRecDepth 100000 in
set_option maxHeartbeats 1000000 in
theorem order_any (w : World) (p : Nat) (A : Option Addr) (n c : Nat) (l : List Int) (a : Int) (h : Str w p A n c l a) (ha : a ≤ 900000) (m : Nat) (hm0 : 1 ≤ m) (hm : m ≤ 1000) :
    Calls Tryz.prog 9 #[.pointer (some ⟨p, 0, none⟩), .int .i64 m] w fun e w' => ∃ (v : Value) (xs : List Int) (a' : Int), e = .returned v ∧ xs.length = m ∧ (∀ x ∈ xs, 0 ≤ x ∧ x < (m : Int)) ∧ Own w' (fun g => w.heap.size ≤ g) 3 1 v m (ints xs) ∧ a ≤ a' ∧ a' ≤ a + m ∧ Str w' p A n c l a' ∧ Keeps (· = p) w w' := by
  obtain ⟨i0, hi0, hz0, hz1, hz2⟩ := info_parts int_info
  have hpz := h.blk.lt
  have HS := Lib.hid h
  clear h
  go_enter Tryz.func9, Tryz.ntmps9
  go_wp2_with fail
  go_loopw [5, 10] (fun v i wr => ∃ (k : Nat) (xs : List Int), k ≤ m ∧ i = .int .i64 k ∧ xs.length ≤ k ∧ k ≤ xs.length ∧ (∀ x ∈ xs, 0 ≤ x ∧ x < (m : Int)) ∧ Own wr (fun g => w.heap.size ≤ g) 3 1 v k (ints xs) ∧ Keeps (· = p) w wr ∧ Blk wr p 25 #[.slice A n c, .int .i64 a]) (fun _ i _ => m - (intOf i).toNat)
  case atStart => exact ⟨0, [], by omega, rfl, Nat.le_refl _, Nat.le_refl _, fun x hx => (by cases hx), Own.nil_ _ _ _ _, Keeps.refl _ _, HS.out.blk⟩
  obtain ⟨k, xs, hk, rfl, hl1, hl2, hx, ho, hkp, hbk⟩ := hrel
  have HX := Lib.hid hx
  have HO := Lib.hid ho
  have HKP := Lib.hid hkp
  have HBK := Lib.hid hbk
  have hwz := hkp.size
  clear hx ho hkp hbk
  by_cases hlt : k < m
  · go_wp2_with (at_builtin; go_must (refine wpList_append_any _ rfl _ _ 22 rfl 3 i0 _ 1 8 Tryz.underlying22 hi0 hz0 hz1 hz2 rfl (by omega) u5 _ _ rfl (HO.out.alloc _) _ 1 1 _ rfl (reads_new _ _ [((k : Nat) : Int)] 1 rfl) (ints_one _) (by unfold maxLen; omega) (by omega) ?_); intro v' w3 happ)
    obtain ⟨o1, o2, o3⟩ := push_keeps rfl hpz HKP.out HBK.out HO.out happ
    go_roundw
    case rel => exact ⟨k + 1, xs ++ [(k : Int)], by omega, by go_num, by simp; omega, by simp; omega, fun y hy => by
        rcases List.mem_append.1 hy with h | h
        · exact HX.out y h
        · simp at h; omega, by simpa [ints] using o1, o2, o3⟩
    case measure => simp [intOf]; omega
  · obtain rfl : k = m := by omega
    obtain ⟨g, cap, rfl, hc1, hc2, hgz, hgw⟩ := HO.out.form (by omega)
    have hst : Str wr p A n c l a := HS.out.again' HKP.out HBK.out HS.out.at0
    have HST := Lib.hid hst
    clear hst
    go_wp2_with fail
    obtain ⟨wo, rfl⟩ : ∃ wo : World, wo = wr := ⟨_, rfl⟩
    go_loopw [7] (fun i wr => ∃ (j : Nat) (ys : List Int) (a' : Int), j < k ∧ i = .int .i64 j ∧ ys.length ≤ k ∧ k ≤ ys.length ∧ (∀ x ∈ ys, 0 ≤ x ∧ x < (k : Int)) ∧ Own wr (fun g => w.heap.size ≤ g) 3 1 (.slice (some ⟨g, 0, none⟩) k cap) k (ints ys) ∧ a ≤ a' ∧ a' + j + 1 ≤ a + k ∧ Str wr p A n c l a' ∧ Keeps (· = p) w wr) (fun i _ => (intOf i).toNat)
    case atStart => exact ⟨k - 1, xs, a, by omega, by simp; omega, hl1, hl2, HX.out, HO.out, by omega, by omega, HST.out, HKP.out⟩
    clear HX HO HKP HBK HST hl1 hl2
    obtain ⟨j, ys, a1, hj, rfl, hl1, hl2, hx, ho, b1, b2, hs, hkp⟩ := hrel
    have HX := Lib.hid hx
    have HO := Lib.hid ho
    have HKP := Lib.hid hkp
    have hgr : g < wr.heap.size := ho.lt rfl
    clear hx ho hkp
    by_cases hj0 : 0 < j
    · go_wp2_with fail
      refine (next_any wr p A n c l a1 _ hs (by omega) (by omega)).mono ?_
      rintro e w1 ⟨y, a2, rfl, ⟨r1, r2, -⟩, g1, g2, hs1, k1⟩
      have r3 := r2 (by omega)
      obtain ⟨q, rfl⟩ := Int.eq_ofNat_of_zero_le r1
      have HK1 := Lib.hid (HKP.out.tr k1)
      have ho1 := HO.out.keeps k1 (fun i hi e => by omega)
      have hjl : j < ys.length := by omega
      have hql : q < ys.length := by omega
      have c1 := ho1.get j (by omega)
      have c2 := ho1.get q (by omega)
      rw [ints_get _ _ hjl] at c1
      rw [ints_get _ _ hql] at c2
      have f1 := ho1.unfrozen j
      have f2 := ho1.unfrozen q
      have HO1 := Lib.hid ho1
      have HS1 := Lib.hid hs1
      have m1 := HX.out _ (List.getElem_mem hjl)
      have m2 := HX.out _ (List.getElem_mem hql)
      have HM1 := Lib.hid m1
      have HM2 := Lib.hid m2
      generalize ys[j] = y1 at *
      generalize ys[q] = y2 at *
      have d1 : (0 : Int) ≤ (j : Int) := by omega
      have d2 : (j : Int) < (k : Int) := by omega
      have d3 : (0 : Int) ≤ (q : Int) := by omega
      have d4 : (q : Int) < (k : Int) := by omega
      clear ho1 hs k1 HO HKP hs1 m1 m2 r2
      obtain ⟨v', hv'⟩ := cell?_setCell_some (w := w1) (p := ⟨g, j, none⟩) (x := .int .i64 y2) (q := ⟨g, q, none⟩) (v := .int .i64 y2) (by simpa using c2)
      go_wp2_with fail
      go_region
      go_wp2_with fail
      go_roundw
      case rel =>
        refine ⟨j - 1, (ys.set j y2).set q y1, a2, by omega, by simp; omega, by simp; omega, by simp; omega, fun x hx => ?_, ?_, by omega, by omega, ?_, ?_⟩
        · rcases List.mem_or_eq_of_mem_set hx with h | h
          · rcases List.mem_or_eq_of_mem_set h with h | h
            · exact HX.out x h
            · rw [h]; exact HM2.out
          · rw [h]; exact HM1.out
        · have := ((HO1.out.set j (by omega) (.int .i64 y2)).set q (by omega) (.int .i64 y1)).drew
          simpa [ints, List.map_set] using this
        · exact (HS.out.again' ((Keeps.setCell (p := ⟨g, q, none⟩) (Keeps.setCell (p := ⟨g, j, none⟩) HK1.out (fun h => absurd h (by show ¬ g < _; omega)) _) (fun h => absurd h (by show ¬ g < _; omega)) _).drew) (((HS1.out.blk.far (p := ⟨g, j, none⟩) (by show p ≠ g; omega) _).far (p := ⟨g, q, none⟩) (by show p ≠ g; omega) _).drew) HS1.out.at0)
        · exact (Keeps.setCell (p := ⟨g, q, none⟩) (Keeps.setCell (p := ⟨g, j, none⟩) HK1.out (fun h => absurd h (by show ¬ g < _; omega)) _) (fun h => absurd h (by show ¬ g < _; omega)) _).drew
      case measure => simp [intOf]; omega
    · obtain rfl : j = 0 := by omega
      go_wp2_with fail
      go_ret
      exact ⟨_, ys, a1, rfl, by omega, HX.out, HO.out, b1, by omega, hs, HKP.out⟩
end Go.Proofs.YtmlfgokbcafbkaaGreatDoor

namespace Go.Proofs.YtmlfgokbcafbkaaGreatDoor
open Go.RowKit

theorem keeps11' (w : World) (g : Nat) (a0 a1 a2 a3 a4 a5 a6 a7 a8 a9 a10 : Value) : Keeps (· = g) w (((((((((((w.setCell ⟨g, 0, none⟩ a0).setCell ⟨g, 1, none⟩ a1).setCell ⟨g, 2, none⟩ a2).setCell ⟨g, 3, none⟩ a3).setCell ⟨g, 4, none⟩ a4).setCell ⟨g, 5, none⟩ a5).setCell ⟨g, 6, none⟩ a6).setCell ⟨g, 7, none⟩ a7).setCell ⟨g, 8, none⟩ a8).setCell ⟨g, 9, none⟩ a9).setCell ⟨g, 10, none⟩ a10) :=
  Keeps.setCell (p := ⟨g, 10, none⟩) (Keeps.setCell (p := ⟨g, 9, none⟩) (Keeps.setCell (p := ⟨g, 8, none⟩) (Keeps.setCell (p := ⟨g, 7, none⟩) (Keeps.setCell (p := ⟨g, 6, none⟩) (Keeps.setCell (p := ⟨g, 5, none⟩) (Keeps.setCell (p := ⟨g, 4, none⟩) (Keeps.setCell (p := ⟨g, 3, none⟩) (Keeps.setCell (p := ⟨g, 2, none⟩) (Keeps.setCell (p := ⟨g, 1, none⟩) (Keeps.setCell (p := ⟨g, 0, none⟩) (Keeps.refl (· = g) w) (fun _ => rfl) _) (fun _ => rfl) _) (fun _ => rfl) _) (fun _ => rfl) _) (fun _ => rfl) _) (fun _ => rfl) _) (fun _ => rfl) _) (fun _ => rfl) _) (fun _ => rfl) _) (fun _ => rfl) _) (fun _ => rfl) _
theorem blk11' (w : World) (g : Nat) (t : TypeId) (b0 b1 b2 b3 b4 b5 b6 b7 b8 b9 b10 a0 a1 a2 a3 a4 a5 a6 a7 a8 a9 a10 : Value) (h : Blk w g t #[b0, b1, b2, b3, b4, b5, b6, b7, b8, b9, b10]) :
    Blk (((((((((((w.setCell ⟨g, 0, none⟩ a0).setCell ⟨g, 1, none⟩ a1).setCell ⟨g, 2, none⟩ a2).setCell ⟨g, 3, none⟩ a3).setCell ⟨g, 4, none⟩ a4).setCell ⟨g, 5, none⟩ a5).setCell ⟨g, 6, none⟩ a6).setCell ⟨g, 7, none⟩ a7).setCell ⟨g, 8, none⟩ a8).setCell ⟨g, 9, none⟩ a9).setCell ⟨g, 10, none⟩ a10) g t #[a0, a1, a2, a3, a4, a5, a6, a7, a8, a9, a10] := by
  have h : Blk (w.setCell ⟨g, 0, none⟩ a0) g t #[a0, b1, b2, b3, b4, b5, b6, b7, b8, b9, b10] := h.set_ 0 a0
  have h : Blk ((w.setCell ⟨g, 0, none⟩ a0).setCell ⟨g, 1, none⟩ a1) g t #[a0, a1, b2, b3, b4, b5, b6, b7, b8, b9, b10] := h.set_ 1 a1
  have h : Blk (((w.setCell ⟨g, 0, none⟩ a0).setCell ⟨g, 1, none⟩ a1).setCell ⟨g, 2, none⟩ a2) g t #[a0, a1, a2, b3, b4, b5, b6, b7, b8, b9, b10] := h.set_ 2 a2
  have h : Blk ((((w.setCell ⟨g, 0, none⟩ a0).setCell ⟨g, 1, none⟩ a1).setCell ⟨g, 2, none⟩ a2).setCell ⟨g, 3, none⟩ a3) g t #[a0, a1, a2, a3, b4, b5, b6, b7, b8, b9, b10] := h.set_ 3 a3
  have h : Blk (((((w.setCell ⟨g, 0, none⟩ a0).setCell ⟨g, 1, none⟩ a1).setCell ⟨g, 2, none⟩ a2).setCell ⟨g, 3, none⟩ a3).setCell ⟨g, 4, none⟩ a4) g t #[a0, a1, a2, a3, a4, b5, b6, b7, b8, b9, b10] := h.set_ 4 a4
  have h : Blk ((((((w.setCell ⟨g, 0, none⟩ a0).setCell ⟨g, 1, none⟩ a1).setCell ⟨g, 2, none⟩ a2).setCell ⟨g, 3, none⟩ a3).setCell ⟨g, 4, none⟩ a4).setCell ⟨g, 5, none⟩ a5) g t #[a0, a1, a2, a3, a4, a5, b6, b7, b8, b9, b10] := h.set_ 5 a5
  have h : Blk (((((((w.setCell ⟨g, 0, none⟩ a0).setCell ⟨g, 1, none⟩ a1).setCell ⟨g, 2, none⟩ a2).setCell ⟨g, 3, none⟩ a3).setCell ⟨g, 4, none⟩ a4).setCell ⟨g, 5, none⟩ a5).setCell ⟨g, 6, none⟩ a6) g t #[a0, a1, a2, a3, a4, a5, a6, b7, b8, b9, b10] := h.set_ 6 a6
  have h : Blk ((((((((w.setCell ⟨g, 0, none⟩ a0).setCell ⟨g, 1, none⟩ a1).setCell ⟨g, 2, none⟩ a2).setCell ⟨g, 3, none⟩ a3).setCell ⟨g, 4, none⟩ a4).setCell ⟨g, 5, none⟩ a5).setCell ⟨g, 6, none⟩ a6).setCell ⟨g, 7, none⟩ a7) g t #[a0, a1, a2, a3, a4, a5, a6, a7, b8, b9, b10] := h.set_ 7 a7
  have h : Blk (((((((((w.setCell ⟨g, 0, none⟩ a0).setCell ⟨g, 1, none⟩ a1).setCell ⟨g, 2, none⟩ a2).setCell ⟨g, 3, none⟩ a3).setCell ⟨g, 4, none⟩ a4).setCell ⟨g, 5, none⟩ a5).setCell ⟨g, 6, none⟩ a6).setCell ⟨g, 7, none⟩ a7).setCell ⟨g, 8, none⟩ a8) g t #[a0, a1, a2, a3, a4, a5, a6, a7, a8, b9, b10] := h.set_ 8 a8
  have h : Blk ((((((((((w.setCell ⟨g, 0, none⟩ a0).setCell ⟨g, 1, none⟩ a1).setCell ⟨g, 2, none⟩ a2).setCell ⟨g, 3, none⟩ a3).setCell ⟨g, 4, none⟩ a4).setCell ⟨g, 5, none⟩ a5).setCell ⟨g, 6, none⟩ a6).setCell ⟨g, 7, none⟩ a7).setCell ⟨g, 8, none⟩ a8).setCell ⟨g, 9, none⟩ a9) g t #[a0, a1, a2, a3, a4, a5, a6, a7, a8, a9, b10] := h.set_ 9 a9
  have h : Blk (((((((((((w.setCell ⟨g, 0, none⟩ a0).setCell ⟨g, 1, none⟩ a1).setCell ⟨g, 2, none⟩ a2).setCell ⟨g, 3, none⟩ a3).setCell ⟨g, 4, none⟩ a4).setCell ⟨g, 5, none⟩ a5).setCell ⟨g, 6, none⟩ a6).setCell ⟨g, 7, none⟩ a7).setCell ⟨g, 8, none⟩ a8).setCell ⟨g, 9, none⟩ a9).setCell ⟨g, 10, none⟩ a10) g t #[a0, a1, a2, a3, a4, a5, a6, a7, a8, a9, a10] := h.set_ 10 a10
  exact h


def zeroM : Array Value := #[.int .i64 0, .int .i64 0, .int .i64 0, .int .i64 0, .slice none 0 0, .slice none 0 0, .slice none 0 0, .slice none 0 0, .slice none 0 0, .slice none 0 0, .slice none 0 0]
noncomputable def modelR (n : Nat) : Code := (Tryz.f4.body.bind (findRegion n)).getD .skip
set_option maxRecDepth 100000 in
set_option maxHeartbeats 4000000 in
theorem model_r26 (w : World) (r b : Nat) (A4 A5 A6 A7 A8 A9 A10 : Option Addr) (N4 N5 N6 N7 N8 N9 N10 c4 c5 c6 c7 c8 c9 c10 : Nat) (x0 x1 x2 x3 : Int) (hb : Blk w b 27 #[.int .i64 x0, .int .i64 x1, .int .i64 x2, .int .i64 x3, .slice A4 N4 c4, .slice A5 N5 c5, .slice A6 N6 c6, .slice A7 N7 c7, .slice A8 N8 c8, .slice A9 N9 c9, .slice A10 N10 c10]) (hr : Blk w r 27 zeroM)
    (s0 s1 s4 s5 s6 s7 s8 s9 s10 s11 s12 s13 s14 s15 s16 s17 s18 s19 s20 s21 s22 s23 s24 s25 s26 s27 s28 s29 s30 s31 s32 s33 s34 s35 s36 s37 s38 s39 s40 s41 s42 s43 s44 s45 s46 s47 s48 s49 s50 s51 s52 s53 s54 s55 s56 s57 s58 s59 s60 s61 s62 s63 s64 s65 s66 s67 s68 s69 s70 s71 s72 s73 s74 s75 s76 s77 s78 s79 s80 s81 s82 s83 s84 s85 s86 s87 s88 s89 s90 s91 s92 s93 s94 s95 s96 s97 s98 s99 s100 s101 s102 s103 s104 s105 s106 s107 s108 s109 s110 : Value) (Q : Exit → Act → World → Prop)
    (hQ : Q .normal ⟨#[s0, s1, .pointer (some ⟨r, 0, none⟩), .pointer (some ⟨b, 0, none⟩), s4, s5, s6, s7, s8, s9, s10, s11, s12, s13, s14, s15, s16, s17, s18, s19, s20, s21, s22, s23, s24, s25, s26, s27, s28, s29, s30, s31, s32, s33, s34, s35, s36, s37, s38, s39, s40, s41, s42, s43, s44, s45, s46, s47, s48, s49, s50, s51, s52, s53, s54, s55, s56, s57, s58, s59, s60, s61, s62, s63, s64, s65, s66, s67, s68, s69, s70, s71, s72, s73, s74, s75, s76, s77, s78, s79, s80, s81, s82, s83, s84, s85, s86, s87, s88, s89, s90, s91, s92, s93, s94, s95, s96, s97, s98, s99, s100, s101, s102, s103, s104, s105, s106, s107, s108, s109, .agg #[.int .i64 x0, .int .i64 x1, .int .i64 x2, .int .i64 x3, .slice A4 N4 c4, .slice A5 N5 c5, .slice A6 N6 c6, .slice A7 N7 c7, .slice A8 N8 c8, .slice A9 N9 c9, .slice A10 N10 c10]], []⟩ (((((((((((w.setCell ⟨r, 0, none⟩ (.int .i64 x0)).setCell ⟨r, 1, none⟩ (.int .i64 x1)).setCell ⟨r, 2, none⟩ (.int .i64 x2)).setCell ⟨r, 3, none⟩ (.int .i64 x3)).setCell ⟨r, 4, none⟩ (.slice A4 N4 c4)).setCell ⟨r, 5, none⟩ (.slice A5 N5 c5)).setCell ⟨r, 6, none⟩ (.slice A6 N6 c6)).setCell ⟨r, 7, none⟩ (.slice A7 N7 c7)).setCell ⟨r, 8, none⟩ (.slice A8 N8 c8)).setCell ⟨r, 9, none⟩ (.slice A9 N9 c9)).setCell ⟨r, 10, none⟩ (.slice A10 N10 c10))) :
    Code.wp Tryz.prog (modelR 26) Q ⟨#[s0, s1, .pointer (some ⟨r, 0, none⟩), .pointer (some ⟨b, 0, none⟩), s4, s5, s6, s7, s8, s9, s10, s11, s12, s13, s14, s15, s16, s17, s18, s19, s20, s21, s22, s23, s24, s25, s26, s27, s28, s29, s30, s31, s32, s33, s34, s35, s36, s37, s38, s39, s40, s41, s42, s43, s44, s45, s46, s47, s48, s49, s50, s51, s52, s53, s54, s55, s56, s57, s58, s59, s60, s61, s62, s63, s64, s65, s66, s67, s68, s69, s70, s71, s72, s73, s74, s75, s76, s77, s78, s79, s80, s81, s82, s83, s84, s85, s86, s87, s88, s89, s90, s91, s92, s93, s94, s95, s96, s97, s98, s99, s100, s101, s102, s103, s104, s105, s106, s107, s108, s109, s110], []⟩ w := by
  conv => arg 2; whnf
  unfold zeroM at hr
  have d0' : w.cell? ⟨b, 0, none⟩ = some (.int .i64 x0) := hb.cell 0
  have d1' : w.cell? ⟨b, 1, none⟩ = some (.int .i64 x1) := hb.cell 1
  have d2' : w.cell? ⟨b, 2, none⟩ = some (.int .i64 x2) := hb.cell 2
  have d3' : w.cell? ⟨b, 3, none⟩ = some (.int .i64 x3) := hb.cell 3
  have d4' : w.cell? ⟨b, 4, none⟩ = some (.slice A4 N4 c4) := hb.cell 4
  have d5' : w.cell? ⟨b, 5, none⟩ = some (.slice A5 N5 c5) := hb.cell 5
  have d6' : w.cell? ⟨b, 6, none⟩ = some (.slice A6 N6 c6) := hb.cell 6
  have d7' : w.cell? ⟨b, 7, none⟩ = some (.slice A7 N7 c7) := hb.cell 7
  have d8' : w.cell? ⟨b, 8, none⟩ = some (.slice A8 N8 c8) := hb.cell 8
  have d9' : w.cell? ⟨b, 9, none⟩ = some (.slice A9 N9 c9) := hb.cell 9
  have d10' : w.cell? ⟨b, 10, none⟩ = some (.slice A10 N10 c10) := hb.cell 10
  have e0' : w.cell? ⟨r, 0, none⟩ = some (.int .i64 0) := hr.cell 0
  have e1' : w.cell? ⟨r, 1, none⟩ = some (.int .i64 0) := hr.cell 1
  have e2' : w.cell? ⟨r, 2, none⟩ = some (.int .i64 0) := hr.cell 2
  have e3' : w.cell? ⟨r, 3, none⟩ = some (.int .i64 0) := hr.cell 3
  have e4' : w.cell? ⟨r, 4, none⟩ = some (.slice none 0 0) := hr.cell 4
  have e5' : w.cell? ⟨r, 5, none⟩ = some (.slice none 0 0) := hr.cell 5
  have e6' : w.cell? ⟨r, 6, none⟩ = some (.slice none 0 0) := hr.cell 6
  have e7' : w.cell? ⟨r, 7, none⟩ = some (.slice none 0 0) := hr.cell 7
  have e8' : w.cell? ⟨r, 8, none⟩ = some (.slice none 0 0) := hr.cell 8
  have e9' : w.cell? ⟨r, 9, none⟩ = some (.slice none 0 0) := hr.cell 9
  have e10' : w.cell? ⟨r, 10, none⟩ = some (.slice none 0 0) := hr.cell 10
  have f0' : w.frozen? ⟨r, 0, none⟩ = false := hr.frozen 0
  have f1' : w.frozen? ⟨r, 1, none⟩ = false := hr.frozen 1
  have f2' : w.frozen? ⟨r, 2, none⟩ = false := hr.frozen 2
  have f3' : w.frozen? ⟨r, 3, none⟩ = false := hr.frozen 3
  have f4' : w.frozen? ⟨r, 4, none⟩ = false := hr.frozen 4
  have f5' : w.frozen? ⟨r, 5, none⟩ = false := hr.frozen 5
  have f6' : w.frozen? ⟨r, 6, none⟩ = false := hr.frozen 6
  have f7' : w.frozen? ⟨r, 7, none⟩ = false := hr.frozen 7
  have f8' : w.frozen? ⟨r, 8, none⟩ = false := hr.frozen 8
  have f9' : w.frozen? ⟨r, 9, none⟩ = false := hr.frozen 9
  have f10' : w.frozen? ⟨r, 10, none⟩ = false := hr.frozen 10
  have hi27 : (Tryz.prog.info? 27).map (·.size) = some 11 := by kernel_rfl
  clear hr
  go_wp2_with (first | (refine wpList_load_row rfl _ _ rfl b rfl 27 #[.int .i64 x0, .int .i64 x1, .int .i64 x2, .int .i64 x3, .slice A4 N4 c4, .slice A5 N5 c5, .slice A6 N6 c6, .slice A7 N7 c7, .slice A8 N8 c8, .slice A9 N9 c9, .slice A10 N10 c10] (0, 0) _ hb Tryz.underlying27 rfl hi27 ?_))
  exact hQ
end Go.Proofs.YtmlfgokbcafbkaaGreatDoor

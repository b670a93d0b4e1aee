/- Stream.Asked. The state of the laws between calls. ServeAlone, walked. -/
import Derived.Test.YtedkfehdfmimoaaGreatK27
import Derived.Test.YtedkfehdfmimoaaGreatK26
import Derived.Test.YtedkfehdfmimoaaGreatK25
import Derived.Test.YtedkfehdfmimoaaGreatK24
import Derived.Deep.LoopGhost
import Derived.Deep.RegionHeld3
import Derived.Deep.DeepCutAuto
namespace Go.Proofs.YtedkfehdfmimoaaGreat
open Go.RowKit

set_option maxRecDepth 100000 in
set_option maxHeartbeats 4000000 in
theorem asked_any (w : World) (p : Nat) (A : Option Addr) (n c : Nat) (l : List Int) (a : Int) (h : Str w p A n c l a) (ha : a ≤ 900000) (M : Model) (v4 v5 v6 v7 v8 v9 v10 : Value) (hv : 1 ≤ M.vocab ∧ M.vocab ≤ 1000) (now : Int) (hn : 0 ≤ now ∧ now ≤ 10000) :
    Calls Tryz.prog 11 #[.pointer (some ⟨p, 0, none⟩), .agg #[.int .i64 M.kind, .int .i64 M.vocab, .int .i64 M.width, .int .i64 M.top, v4, v5, v6, v7, v8, v9, v10], .int .i64 now] w (AskPost w p A n c l a 60 fun r => r.id ≤ 9 ∧ 0 ≤ r.deadline ∧ r.deadline ≤ now + 30 ∧ r.prompt.length ≤ 100) := by
  have HREQ := Lib.hid (fun (W : World) (a1 : Int) (hs : Str W p A n c l a1) (ha1 : a1 ≤ 1000000) => request_any W p A n c l a1 hs ha1 M v4 v5 v6 v7 v8 v9 v10 hv)
  obtain ⟨hv1, hv2⟩ := hv
  obtain ⟨hn1, hn2⟩ := hn
  have hp := h.blk.lt
  have h0 := (h.alloc (.cells #[.int .i64 M.kind, .int .i64 M.vocab, .int .i64 M.width, .int .i64 M.top, v4, v5, v6, v7, v8, v9, v10] 27)).alloc (.cells #[.int .i64 0, .int .i64 0, .slice none 0 0, .int .i64 0, .int .i64 0] 41)
  have k0 := (Blk.new w 27 #[.int .i64 M.kind, .int .i64 M.vocab, .int .i64 M.width, .int .i64 M.top, v4, v5, v6, v7, v8, v9, v10]).alloc (.cells #[.int .i64 0, .int .i64 0, .slice none 0 0, .int .i64 0, .int .i64 0] 41)
  have l0 := Blk.new (w.alloc (.cells #[.int .i64 M.kind, .int .i64 M.vocab, .int .i64 M.width, .int .i64 M.top, v4, v5, v6, v7, v8, v9, v10] 27)) 41 #[.int .i64 0, .int .i64 0, .slice none 0 0, .int .i64 0, .int .i64 0]
  have kk0 : Keeps (· = p) w ((w.alloc (.cells #[.int .i64 M.kind, .int .i64 M.vocab, .int .i64 M.width, .int .i64 M.top, v4, v5, v6, v7, v8, v9, v10] 27)).alloc (.cells #[.int .i64 0, .int .i64 0, .slice none 0 0, .int .i64 0, .int .i64 0] 41)) := ((Keeps.refl _ _).alloc _).alloc _
  simp only [World.size_alloc] at l0
  have HS := Lib.hid h
  have H0 := Lib.hid h0
  have K0 := Lib.hid k0
  have L0 := Lib.hid l0
  have KK0 := Lib.hid kk0
  clear h h0 k0 l0 kk0
  go_enter Tryz.func11, Tryz.ntmps11
  go_wp2_with fail
  refine (range_any _ p A n c l a _ _ H0.out (by omega) (by omega) (by omega) (by omega)).mono ?_
  rintro e w1 ⟨id, a1, rfl, ⟨i1, i2⟩, g1, g1', hs1, k1⟩
  have HS1 := Lib.hid hs1
  have KK1 := Lib.hid (KK0.out.tr k1)
  have K1 := Lib.hid (k1.blk K0.out (by omega))
  have L1 := Lib.hid (k1.blk L0.out (by omega))
  clear hs1 k1
  go_wp2_with fail
  refine (pick_lit _ p A n c l a1 HS1.out (by omega) [0, 1, 3, 6, 9, 15, 30] 7 rfl (by omega) (by omega) _ rfl _ rfl).mono ?_
  rintro e w2 ⟨dd, a2, rfl, dm, g2, g2', hs2, k2⟩
  obtain ⟨d1, d2⟩ := inList dm (by decide)
  have d3 : dd ≤ 30 := by
    simp only [List.mem_cons, List.not_mem_nil, or_false] at dm
    omega
  have HS2 := Lib.hid hs2
  have KK2 := Lib.hid (KK1.out.tr k2)
  have K2 := Lib.hid (k2.blk K1.out (by omega))
  have L2 := Lib.hid (k2.blk L1.out (by omega))
  clear hs2 k2 d2 dm
  go_wp2_with fail
  refine (range_any _ p A n c l a2 _ _ HS2.out (by omega) (by omega) (by omega) (by omega)).mono ?_
  rintro e w3 ⟨mo, a3, rfl, ⟨m1, m2⟩, g3, g3', hs3, k3⟩
  have HS3 := Lib.hid hs3
  have KK3 := Lib.hid (KK2.out.tr k3)
  have K3 := Lib.hid (k3.blk K2.out (by omega))
  have L3 := Lib.hid (k3.blk L2.out (by omega))
  clear hs3 k3
  go_wp2_with fail
  refine (next_any _ p A n c l a3 _ HS3.out (by omega) (by omega)).mono ?_
  rintro e w4 ⟨sd, a4, rfl, ⟨s1, s2, -⟩, g4, g4', hs4, k4⟩
  have hx := (k4.blk L3.out (by omega)).lt
  have hR : RqS w (w4.alloc (.cells #[.int .i64 id, .int .i64 (now + dd), .slice none 0 0, .int .i64 mo, .int .i64 sd] 41)) p A n c l M.vocab w.heap.size (w.heap.size + 1) w4.heap.size a4 id (now + dd) (.slice none 0 0) mo sd [] :=
    ⟨⟨a, HS.out⟩, hs4.alloc _, (KK3.out.tr k4).alloc _, ((k4.blk K3.out (by omega)).alloc _).cell 1, (k4.blk L3.out (by omega)).alloc _, Blk.new _ _ _, Own.nil_ _ _ _ _, hp, Nat.le_refl _, by omega, by omega⟩
  have kq := (k4.blk K3.out (by omega)).alloc (.cells #[.int .i64 id, .int .i64 (now + dd), .slice none 0 0, .int .i64 mo, .int .i64 sd] 41)
  have HR := Lib.hid hR
  have HKQ := Lib.hid kq
  have h5 := hR.str
  clear hs4 k4 HS1 HS2 HS3 KK0 KK1 KK2 KK3 K0 K1 K2 K3 L0 L1 L2 L3 H0 hR kq
  go_wp2_with fail
  refine (flip_any _ p A n c l a4 _ HR.out.str (by omega) (by omega)).mono ?_
  rintro e w5 ⟨b, a5, rfl, g5, g5', hs5, k5⟩
  have HR5 := Lib.hid (HR.out.moved hs5 k5)
  have kq5 := k5.blk HKQ.out (by omega)
  have HKQ5 := Lib.hid kq5
  clear hs5 k5 h5 HR hx HKQ kq5
  cases b with
  | true =>
    obtain ⟨m0, m1', m2', m3, m4, m5, m6, m7, m8, m9, m10⟩ := mcells HKQ5.out
    have h5 := HR5.out.str
    go_wp2_with fail
    refine (HREQ.out w5 a5 HR5.out.str (by omega)).mono ?_
    rintro e w6 ⟨r, vp, a6, rfl, ⟨r1, r2, r3, r4⟩, hsl, g6, g6', hs6, k6⟩
    have HR6 := Lib.hid (HR5.out.moved hs6 k6)
    obtain ⟨C, cc, rfl⟩ := hsl.len
    obtain ⟨nn, hnn⟩ : ∃ nn, nn = r.prompt.length := ⟨_, rfl⟩
    unfold askVal
    rw [← hnn]
    have HNN := Lib.hid hnn
    have HSL := Lib.hid hsl
    have HK6 := Lib.hid k6
    have e0 : w6.cell? ⟨w.heap.size + 1, 0, none⟩ = some (.int .i64 0) := HR6.out.k4.cell 0
    have e1 : w6.cell? ⟨w.heap.size + 1, 1, none⟩ = some (.int .i64 0) := HR6.out.k4.cell 1
    have e2 : w6.cell? ⟨w.heap.size + 1, 2, none⟩ = some (.slice none 0 0) := HR6.out.k4.cell 2
    have e3 : w6.cell? ⟨w.heap.size + 1, 3, none⟩ = some (.int .i64 0) := HR6.out.k4.cell 3
    have e4 : w6.cell? ⟨w.heap.size + 1, 4, none⟩ = some (.int .i64 0) := HR6.out.k4.cell 4
    have f0 := HR6.out.k4.frozen 0
    have f1 := HR6.out.k4.frozen 1
    have f2 := HR6.out.k4.frozen 2
    have f3 := HR6.out.k4.frozen 3
    have f4 := HR6.out.k4.frozen 4
    have hz5 := HR5.out.k5.lt
    clear hsl k6 hnn h5 hs6 m0 m1' m2' m3 m4 m5 m6 m7 m8 m9 m10
    go_wp2_with fail
    have bf := blk5 w6 (w.heap.size + 1) 41 _ _ _ _ _ (.int .i64 r.id) (.int .i64 r.deadline) (.slice C nn cc) (.int .i64 r.most) (.int .i64 r.seed) HR6.out.k4
    have kf := keeps5 w6 (w.heap.size + 1) (.int .i64 r.id) (.int .i64 r.deadline) (.slice C nn cc) (.int .i64 r.most) (.int .i64 r.seed)
    (try simp only [Exit.inBlock, Exit.then])
    refine bodyPost_ret (v := .agg #[.int .i64 r.id, .int .i64 r.deadline, .slice C nn cc, .int .i64 r.most, .int .i64 r.seed]) ?_ ?_ ?_
    · exact results_cell_row (p := 6) (ty := 41) (fn := Tryz.f11) rfl _ _ (w.heap.size + 1) 41 #[.int .i64 r.id, .int .i64 r.deadline, .slice C nn cc, .int .i64 r.most, .int .i64 r.seed] (0, 0) _ rfl bf Tryz.underlying41 rfl rfl
    · rfl
    have kt := HR6.out.kp.trans kf (S := (· = p)) (fun i hi h => by omega)
    have h45 := HR6.out.l45
    refine ⟨r, .slice C nn cc, a6, ?_, ⟨r1, r2, by omega, r4⟩, ?_, by omega, by omega, HS.out.again kt (kf.blk HR6.out.str.blk (by omega)) HR6.out.str.at0, kt⟩
    · unfold askVal; rfl
    · have hslk := HSL.out.keeps kf (fun i hi => by omega)
      rw [← HNN.out] at hslk
      exact hslk.more (fun g _ hg => by omega)
  | false =>
    have h5 := HR5.out.str
    go_wp2_with fail
    refine (range_any _ p A n c l a5 _ _ h5 (by omega) (by omega) (by omega) (by omega)).mono ?_
    rintro e w6 ⟨cnt, a6, rfl, ⟨t1, t2⟩, g6, g6', hs6, k6⟩
    have HR6 := Lib.hid (HR5.out.moved hs6 k6)
    obtain ⟨i0, hi0, hz0, hz1, hz2⟩ := info_parts int_info
    clear hs6 k6 h5 HR5 HKQ5
    go_wp2_with fail
    go_loopw [28] (fun x wr => ∃ (k : Nat) (a7 : Int) (vp : Value) (pr : List Int), (k : Int) ≤ cnt ∧ x = .int .i64 k ∧ pr.length = k ∧ RqS w wr p A n c l M.vocab w.heap.size (w.heap.size + 1) w4.heap.size a7 id (now + dd) vp mo sd pr ∧ a ≤ a7 ∧ a7 ≤ a + 10 + k) (fun x _ => cnt.toNat - (intOf x).toNat)
    case atStart => exact ⟨0, a6, .slice none 0 0, [], by omega, rfl, rfl, HR6.out, by omega, by omega⟩
    obtain ⟨k, a7, vp, pr, hk, rfl, hpr, hR, g7, g7'⟩ := hrel
    obtain ⟨B, cb, rfl, hcb1, hcb2⟩ := hR.own.shape
    rw [hpr] at hR hcb1
    have hpr32 : k ≤ 6 := by omega
    by_cases hlt : (k : Int) < cnt
    · have e2 : wr.cell? ⟨w4.heap.size, 2, none⟩ = some (.slice B k cb) := hR.k5.cell 2
      have f2 := hR.k5.frozen 2
      have e1 := hR.k3
      have c2a : (wr.alloc (.cells #[.int .i64 1, .int .i64 1, .int .i64 1, .int .i64 1, .int .i64 2] 3)).cell? ⟨w4.heap.size, 2, none⟩ = some (.slice B k cb) := (hR.alloc _).k5.cell 2
      have c2b : (wr.alloc (.cells #[.int .i64 1, .int .i64 1, .int .i64 1, .int .i64 1, .int .i64 2] 3)).cell? ⟨w.heap.size, 1, none⟩ = some (.int .i64 M.vocab) := (hR.alloc _).k3
      have HR7 := Lib.hid hR
      have HPR := Lib.hid hpr
      have hm0 : ¬ M.vocab = 0 := by omega
      clear hR hpr HR6 hcb1 hcb2
      go_wp2_with fail
      go_region_law ((first
        | (refine step_append_any _ (by rfl) _ _ 22 (by rfl) 3 i0 _ 1 8 Tryz.underlying22 hi0 hz0 hz1 hz2 rfl (by omega) (.slice B k cb) k (ints pr) (by rfl) (hown.alloc _) _ 1 1 _ (by rfl) (reads_new _ _ [((k : Int) + y).tmod (M.vocab : Int)] 1 rfl) (ints_one _) (by unfold maxLen; omega) (by omega) ?_; intro v' w8 happ; obtain ⟨A8, c8, rfl, -, -⟩ := happ.1.shape; have k8 := (HR8.out.kept _ happ); have d2 := k8.cell 2; have d2f := k8.frozen 2)
        | (go_simp; go_at_call 26; refine (pick_lit wr.drew p A n c l a7 HR7.out.str.drew (by omega) [1, 1, 1, 1, 2] 5 rfl (by omega) (by omega) _ rfl _ rfl).mono ?_; rintro e w7 ⟨y, a8, rfl, my, g8, g8', hs8, k8⟩; obtain ⟨y1, y2⟩ := inList my (by decide); have hw : IntKind.i64.wrap ((k : Int) + y) = (k : Int) + y := IntWalk.i64_in _ ⟨by omega, by omega⟩; have HR8 := Lib.hid (HR7.out.drew.moved hs8 k8); have hown := HR8.out.own; rw [HPR.out] at hown; have c7 : w7.cell? ⟨w4.heap.size, 2, none⟩ = some (.slice B k cb) := HR8.out.k5.cell 2; have c7v : w7.cell? ⟨w.heap.size, 1, none⟩ = some (.int .i64 M.vocab) := HR8.out.k3; have c7a : (w7.alloc (.cells #[.int .i64 (((k : Int) + y).tmod (M.vocab : Int))] 3)).cell? ⟨w4.heap.size, 2, none⟩ = some (.slice B k cb) := (HR8.out.alloc _).k5.cell 2; try dsimp only)))
      all_goals (
        have HAP := Lib.hid happ
        clear happ k8 d2 d2f hown c7 c7a c7v hs8 c2a c2b hw
        go_wp2_with fail
        go_roundw
        case rel => exact ⟨k + 1, a8, _, pr ++ [((k : Int) + y).tmod (M.vocab : Int)], by omega, by go_num, by rw [List.length_append, HPR.out]; rfl, HR8.out.push HPR.out.symm _ HAP.out, by omega, by omega⟩
        case measure => simp [intOf]; omega)
    · have d0 : wr.cell? ⟨w4.heap.size, 0, none⟩ = some (.int .i64 id) := hR.k5.cell 0
      have d1' : wr.cell? ⟨w4.heap.size, 1, none⟩ = some (.int .i64 (now + dd)) := hR.k5.cell 1
      have d2 : wr.cell? ⟨w4.heap.size, 2, none⟩ = some (.slice B k cb) := hR.k5.cell 2
      have d3' : wr.cell? ⟨w4.heap.size, 3, none⟩ = some (.int .i64 mo) := hR.k5.cell 3
      have d4 : wr.cell? ⟨w4.heap.size, 4, none⟩ = some (.int .i64 sd) := hR.k5.cell 4
      have e0 : wr.cell? ⟨w.heap.size + 1, 0, none⟩ = some (.int .i64 0) := hR.k4.cell 0
      have e1 : wr.cell? ⟨w.heap.size + 1, 1, none⟩ = some (.int .i64 0) := hR.k4.cell 1
      have e2 : wr.cell? ⟨w.heap.size + 1, 2, none⟩ = some (.slice none 0 0) := hR.k4.cell 2
      have e3 : wr.cell? ⟨w.heap.size + 1, 3, none⟩ = some (.int .i64 0) := hR.k4.cell 3
      have e4 : wr.cell? ⟨w.heap.size + 1, 4, none⟩ = some (.int .i64 0) := hR.k4.cell 4
      have f0 := hR.k4.frozen 0
      have f1 := hR.k4.frozen 1
      have f2 := hR.k4.frozen 2
      have f3 := hR.k4.frozen 3
      have f4 := hR.k4.frozen 4
      have HR7 := Lib.hid hR
      have HPR := Lib.hid hpr
      clear hR hpr HR6 hcb1 hcb2 hi0 hz0 hz1 hz2 i0
      go_wp2_with fail
      have bf := blk5 wr (w.heap.size + 1) 41 _ _ _ _ _ (.int .i64 id) (.int .i64 (now + dd)) (.slice B k cb) (.int .i64 mo) (.int .i64 sd) HR7.out.k4
      have kf := keeps5 wr (w.heap.size + 1) (.int .i64 id) (.int .i64 (now + dd)) (.slice B k cb) (.int .i64 mo) (.int .i64 sd)
      (try simp only [Exit.inBlock, Exit.then])
      refine bodyPost_ret (v := .agg #[.int .i64 id, .int .i64 (now + dd), .slice B k cb, .int .i64 mo, .int .i64 sd]) ?_ ?_ ?_
      · exact results_cell_row (p := 6) (ty := 41) (fn := Tryz.f11) rfl _ _ (w.heap.size + 1) 41 #[.int .i64 id, .int .i64 (now + dd), .slice B k cb, .int .i64 mo, .int .i64 sd] (0, 0) _ rfl bf Tryz.underlying41 rfl rfl
      · rfl
      have kt := HR7.out.kp.trans kf (S := (· = p)) (fun i hi h => by omega)
      have h45 := HR7.out.l45
      have hl := HR7.out.own.slc
      refine ⟨⟨id, now + dd, pr, mo, sd⟩, .slice B k cb, a7, rfl, ⟨by show id ≤ 9; omega, by show 0 ≤ now + dd; omega, by show now + dd ≤ now + 30; omega, by show pr.length ≤ 100; rw [HPR.out]; omega⟩, (hl.keeps kf (fun i hi => by omega)).more (fun g _ hg => by omega), by omega, by omega, HS.out.again kt (kf.blk HR7.out.str.blk (by omega)) HR7.out.str.at0, kt⟩
end Go.Proofs.YtedkfehdfmimoaaGreat

namespace Go.Proofs.YtedkfehdfmimoaaGreat
open Go.RowKit

theorem req_info : (Tryz.prog.info? 41).map (fun i => (i.zero, i.size, i.bytes)) = some (some (.agg #[.int .i64 0, .int .i64 0, .slice none 0 0, .int .i64 0, .int .i64 0]), 5, 56) := by kernel_rfl
def mc (v4 v5 v6 v7 v8 v9 v10 : Value) : Array Value := #[.int .i64 1, .int .i64 8, .int .i64 4, .int .i64 8, v4, v5, v6, v7, v8, v9, v10]
structure LawK (W0 W : World) (p : Nat) (A : Option Addr) (n c : Nat) (l : List Int) (q4 B : Nat) (v4 v5 v6 v7 v8 v9 v10 : Value) (own : Nat → Slot) (P : Ptrs) (s : Srv) (a' : Int) : Prop where
  rep : Rep W own P s
  s0 : ∃ a0, Str W0 p A n c l a0
  kp : Keeps (· = p) W0 W
  str : Str W p A n c l a'
  k4 : Blk W q4 27 (mc v4 v5 v6 v7 v8 v9 v10)
  ms : MSl W (fun g => W0.heap.size ≤ g ∧ g < B) demoM v4 v5 v6 v7 v8 v9 v10
  low : ∀ g, g < B → own g = .other
  pB : p < W0.heap.size
  wB : W0.heap.size ≤ B
  q1 : W0.heap.size ≤ q4
  q2 : q4 < B
  sz : B ≤ W.heap.size
section
variable {W0 W W' : World} {p : Nat} {A : Option Addr} {n c : Nat} {l : List Int} {q4 B : Nat} {v4 v5 v6 v7 v8 v9 v10 : Value} {own own' : Nat → Slot} {P P' : Ptrs} {s s' : Srv} {a' a2 : Int}
theorem LawK.keep {S : Nat → Prop} (h : LawK W0 W p A n c l q4 B v4 v5 v6 v7 v8 v9 v10 own P s a') (hk : Keeps S W W') (hS : ∀ g, g < B → S g → g = p) (rep' : Rep W' own' P' s') (low' : ∀ g, g < B → own' g = .other) (hb : Blk W' p 25 #[.slice A n c, .int .i64 a2]) (h0 : 0 ≤ a2) :
    LawK W0 W' p A n c l q4 B v4 v5 v6 v7 v8 v9 v10 own' P' s' a2 := by
  have h1 := h.pB
  have h2 := h.wB
  have h3 := h.q1
  have h4 := h.q2
  have kp : Keeps (· = p) W0 W' := h.kp.trans hk (fun i hi e => hS i (by omega) e)
  obtain ⟨a0, s0⟩ := h.s0
  exact ⟨rep', h.s0, kp, s0.again kp hb h0, hk.blk h.k4 (fun e => by have := hS _ h4 e; omega), h.ms.keeps hk (fun i hi e => by have := hS i hi.2 e; omega), low', h1, h2, h3, h4, Nat.le_trans h.sz hk.size⟩
theorem LawK.stream (h : LawK W0 W p A n c l q4 B v4 v5 v6 v7 v8 v9 v10 own P s a') (hs : Str W' p A n c l a2) (hk : Keeps (· = p) W W') : LawK W0 W' p A n c l q4 B v4 v5 v6 v7 v8 v9 v10 own P s a2 :=
  h.keep hk (fun g _ e => e) (h.rep.stay hk (fun g e => by subst e; exact h.low _ (Nat.lt_of_lt_of_le h.pB h.wB))) h.low hs.blk hs.at0
theorem LawK.fresh (h : LawK W0 W p A n c l q4 B v4 v5 v6 v7 v8 v9 v10 own P s a') (hb : Below W.heap.size W W') : LawK W0 W' p A n c l q4 B v4 v5 v6 v7 v8 v9 v10 own P s a' :=
  h.stream (h.str.fresh hb) (Keeps.of_below hb _)
theorem LawK.step {m : Nat} (h : LawK W0 W p A n c l q4 B v4 v5 v6 v7 v8 v9 v10 own P s a') (rep' : Rep W' own' P' s') (st : Step W own P W' own' P' m) : LawK W0 W' p A n c l q4 B v4 v5 v6 v7 v8 v9 v10 own' P' s' a' :=
  h.keep st.keeps (fun g hg e => absurd (h.low g hg) e) rep' (fun g hg => by
    rw [st.old g (Nat.lt_of_lt_of_le hg h.sz)]; exact h.low g hg) (st.keeps.blk h.str.blk (fun e => e (h.low _ (Nat.lt_of_lt_of_le h.pB h.wB)))) h.str.at0
end

/-! ### the calls that were accepted, in a row -/
def askCells : List Ask → List Value → List Value
  | r :: rs, v :: vs => .int .i64 r.id :: .int .i64 r.deadline :: v :: .int .i64 r.most :: .int .i64 r.seed :: askCells rs vs
  | _, _ => []
theorem askCells_snoc (r : Ask) (v : Value) : ∀ (rs : List Ask) (vs : List Value), vs.length = rs.length → askCells (rs ++ [r]) (vs ++ [v]) = askCells rs vs ++ [.int .i64 r.id, .int .i64 r.deadline, v, .int .i64 r.most, .int .i64 r.seed]
  | [], [], _ => rfl
  | _ :: rs, _ :: vs, h => by
    simp only [List.cons_append, askCells]
    rw [askCells_snoc r v rs vs (by simpa using h)]
  | [], _ :: _, h => by simp at h
  | _ :: _, [], h => by simp at h
theorem askCells_get : ∀ (rs : List Ask) (vs : List Value) (i : Nat) (r : Ask) (v : Value), rs[i]? = some r → vs[i]? = some v →
    (askCells rs vs)[i * 5]? = some (.int .i64 r.id) ∧ (askCells rs vs)[i * 5 + 1]? = some (.int .i64 r.deadline) ∧ (askCells rs vs)[i * 5 + 2]? = some v ∧ (askCells rs vs)[i * 5 + 3]? = some (.int .i64 r.most) ∧ (askCells rs vs)[i * 5 + 4]? = some (.int .i64 r.seed)
  | r0 :: rs, v0 :: vs, 0, r, v, h1, h2 => by
    simp only [List.getElem?_cons_zero, Option.some.injEq] at h1 h2
    subst h1 h2
    exact ⟨rfl, rfl, rfl, rfl, rfl⟩
  | _ :: rs, _ :: vs, i + 1, r, v, h1, h2 => by
    simp only [List.getElem?_cons_succ] at h1 h2
    have := askCells_get rs vs i r v h1 h2
    rw [show (i + 1) * 5 = i * 5 + 5 by omega]
    exact this
  | [], _, _, _, _, h1, _ => by simp at h1
  | _ :: _, [], _, _, _, _, h2 => by simp at h2
structure RowS (W : World) (B : Nat) (own : Nat → Slot) (asked : List Ask) (vrow : Value) (vps : List Value) (D : Nat → Prop) : Prop where
  row : Own W (fun g => own g = .other ∧ B ≤ g) 41 5 vrow asked.length (askCells asked vps)
  prm : Rows W D vps (asked.map (·.prompt))
  dis : ∀ g, D g → g < W.heap.size ∧ B ≤ g ∧ own g = .other ∧ vrow.ownBlock ≠ some g
section
variable {W W' : World} {B : Nat} {own own' : Nat → Slot} {asked : List Ask} {vrow : Value} {vps : List Value} {D : Nat → Prop}
theorem RowS.keep {S : Nat → Prop} (h : RowS W B own asked vrow vps D) (hk : Keeps S W W') (hS : ∀ g, own g = .other → B ≤ g → ¬ S g) (ho : ∀ g, g < W.heap.size → own' g = own g) : RowS W' B own' asked vrow vps D := by
  refine ⟨?_, h.prm.keeps hk (fun g hg => hS g (h.dis g hg).2.2.1 (h.dis g hg).2.1), fun g hg => ?_⟩
  · have h1 := h.row.keeps hk (fun g hg => hS g hg.1 hg.2)
    exact ⟨h1.1, fun g hg => by
      have h2 := h1.2 g hg
      exact ⟨by rw [ho g (h.row.lt hg)]; exact h2.1, h2.2⟩⟩
  · obtain ⟨d1, d2, d3, d4⟩ := h.dis g hg
    exact ⟨Nat.lt_of_lt_of_le d1 hk.size, d2, by rw [ho g d1]; exact d3, d4⟩
theorem RowS.fresh (h : RowS W B own asked vrow vps D) (hb : Below W.heap.size W W') : RowS W' B own asked vrow vps D := h.keep (S := fun _ => False) (Keeps.of_below hb _) (fun _ _ _ => id) (fun _ _ => rfl)
theorem RowS.stream {p : Nat} (h : RowS W B own asked vrow vps D) (hk : Keeps (· = p) W W') (hp : p < B) : RowS W' B own asked vrow vps D := h.keep hk (fun g _ hg e => by omega) (fun _ _ => rfl)
theorem RowS.step {P P' : Ptrs} {m : Nat} (h : RowS W B own asked vrow vps D) (st : Step W own P W' own' P' m) : RowS W' B own' asked vrow vps D := h.keep st.keeps (fun g e _ e' => e' e) st.old
theorem RowS.push (h : RowS W B own asked vrow vps D) {r : Ask} {vp v' : Value} {E : Nat → Prop} (hbey : ∀ g, W.heap.size ≤ g → own g = .other) (hB : B ≤ W.heap.size) (hp : Slc W E vp r.prompt) (hE : ∀ g, E g → g < W.heap.size ∧ B ≤ g ∧ own g = .other ∧ vrow.ownBlock ≠ some g) (o : Obj)
    (happ : Appended (W.alloc o) W' (fun g => own g = .other ∧ B ≤ g) 41 5 vrow v' (asked.length + 1) (askCells asked vps ++ [.int .i64 r.id, .int .i64 r.deadline, vp, .int .i64 r.most, .int .i64 r.seed])) :
    RowS W' B own (asked ++ [r]) v' (vps ++ [vp]) (fun g => D g ∨ E g) ∧ Below B W W' := by
  have hge : ∀ g, vrow.ownBlock = some g → B ≤ g := fun g e => (h.row.2 g e).2
  have hK : Keeps (fun g => vrow.ownBlock = some g) W W' := ((Keeps.refl _ W).alloc o).tr ((Keeps.refl _ _).grown happ.2.1 (fun k e _ => e))
  have hB3 : Below B W W' := ⟨hK.os, hK.tape, hK.output, hK.size, fun g hg => hK.block g (by omega) (fun e => by have := hge g e; omega)⟩
  refine ⟨⟨?_, ?_, fun g hg => ?_⟩, hB3⟩
  · rw [askCells_snoc _ _ _ _ (by have := h.prm.1; simpa using this), List.length_append]
    refine happ.1.more fun g _ e => ?_
    rcases e with e | e
    · exact e
    · subst e
      exact ⟨hbey _ (by simp), by simp; omega⟩
  · rw [List.map_append]
    refine Rows.snoc ((h.prm.keeps hK (fun g hg e => (h.dis g hg).2.2.2 e)).more fun g _ hg => Or.inl hg) ((hp.keeps hK (fun g hg e => (hE g hg).2.2.2 e)).more fun g _ hg => Or.inr hg)
  · have hd : g < W.heap.size ∧ B ≤ g ∧ own g = .other ∧ vrow.ownBlock ≠ some g := by
      rcases hg with hg | hg
      · exact h.dis g hg
      · exact hE g hg
    obtain ⟨d1, d2, d3, d4⟩ := hd
    refine ⟨Nat.lt_of_lt_of_le d1 hK.size, d2, d3, ?_⟩
    rcases happ.2.2 with e | e
    · rw [e]; exact d4
    · rw [e]
      intro e2
      injection e2 with e2
      simp at e2
      omega
end
end Go.Proofs.YtedkfehdfmimoaaGreat

namespace Go.Proofs.YtedkfehdfmimoaaGreat
open Go.RowKit

theorem conf_ok (v1 v2 v3 v4 : Int) (h : (win v1 1 64 && win v2 1 8 && win v3 1 16 && win v4 1 32) = true) : ∃ c : CConf, c.Ok ∧ v1 = c.pages ∧ v2 = c.pageSize ∧ v3 = c.batch ∧ v4 = c.queue := by
  unfold win at h
  simp only [Bool.and_eq_true, decide_eq_true_eq] at h
  exact ⟨⟨v1.toNat, v2.toNat, v3.toNat, v4.toNat⟩, ⟨by show 1 ≤ v1.toNat ∧ v1.toNat ≤ 64; omega, by show 1 ≤ v2.toNat ∧ v2.toNat ≤ 8; omega, by show 1 ≤ v3.toNat ∧ v3.toNat ≤ 16; omega, by show 1 ≤ v4.toNat ∧ v4.toNat ≤ 32; omega⟩,
    by show v1 = (v1.toNat : Int); omega, by show v2 = (v2.toNat : Int); omega, by show v3 = (v3.toNat : Int); omega, by show v4 = (v4.toNat : Int); omega⟩
theorem Slc.sl {w : World} {T : Nat → Prop} {v : Value} {xs : List Int} (h : Slc w T v xs) : ∃ A N c, v = .slice A N c := by
  obtain ⟨A, c, h, -⟩ := h
  exact ⟨A, _, c, h⟩
/-- What loop 1 keeps. -/
structure Loop1 (W0 W : World) (p : Nat) (A : Option Addr) (n c : Nat) (l : List Int) (q4 B sa : Nat) (v4 v5 v6 v7 v8 v9 v10 : Value) (vrow : Value) (k : Nat) (own : Nat → Slot) (P : Ptrs) (s : Srv) (a' : Int) (asked : List Ask) (vps : List Value) (D : Nat → Prop) : Prop where
  K : LawK W0 W p A n c l q4 B v4 v5 v6 v7 v8 v9 v10 own P s a'
  R : RowS W B own asked vrow vps D
  run : Run s asked
  esa : P.sa = sa
  M : s.M = demoM
  now : s.now = k
  rec_ : s.records ≤ 2 * k
  dl : ∀ i, i < s.reqs.length → (s.req i).deadline ≤ 60
  at_ : a' ≤ 1000 + 100 * k
theorem Keeps.undrew {S : Nat → Prop} {w w' : World} (h : Keeps S w.drew w') : Keeps S w w' := ⟨h.os, h.tape, h.output, h.size, h.block⟩
theorem Keeps.unalloc {S : Nat → Prop} {w w' : World} {o : Obj} (h : Keeps S (w.alloc o).drew w') : Keeps S w w' := ((Keeps.refl S w).alloc o).tr h.undrew
section
variable {W0 W W' : World} {p : Nat} {A : Option Addr} {n c : Nat} {l : List Int} {q4 B sa k : Nat} {v4 v5 v6 v7 v8 v9 v10 vrow : Value} {own own' : Nat → Slot} {P P' : Ptrs} {s s' : Srv} {a' a2 : Int} {asked : List Ask} {vps : List Value} {D : Nat → Prop}
/-- between the draw of a call and the tick -/
structure Mid (W0 W : World) (p : Nat) (A : Option Addr) (n c : Nat) (l : List Int) (q4 B sa : Nat) (v4 v5 v6 v7 v8 v9 v10 : Value) (vrow : Value) (k : Nat) (own : Nat → Slot) (P : Ptrs) (s : Srv) (a' : Int) (asked : List Ask) (vps : List Value) (D : Nat → Prop) : Prop where
  K : LawK W0 W p A n c l q4 B v4 v5 v6 v7 v8 v9 v10 own P s a'
  R : RowS W B own asked vrow vps D
  run : Run s asked
  esa : P.sa = sa
  M : s.M = demoM
  now : s.now = k
  rec_ : s.records ≤ 2 * k + 1
  dl : ∀ i, i < s.reqs.length → (s.req i).deadline ≤ 60
  at_ : a' ≤ 1000 + 100 * (k + 1)
theorem Mid.tick (h : Mid W0 W p A n c l q4 B sa v4 v5 v6 v7 v8 v9 v10 vrow k own P s a' asked vps D) (hk : k ≤ 100) (rep' : Rep W' own' P' s.tick) (st : Step W own P W' own' P' s.reqs.length) :
    Loop1 W0 W' p A n c l q4 B sa v4 v5 v6 v7 v8 v9 v10 vrow (k + 1) own' P' s.tick a' asked vps D ∧ ∀ i, i < s.tick.reqs.length → (s.tick.req i).ended = false → (s.tick.now : Int) ≤ (s.tick.req i).deadline := by
  obtain ⟨r1, t, d1, d2⟩ := h.run.tick (by have := h.rec_; omega)
  refine ⟨⟨h.K.step rep' st, h.R.step st, r1, st.sa.trans h.esa, by rw [t.M]; exact h.M, by rw [t.now, h.now], by rw [t.records]; have := h.rec_; omega, fun i hi => ?_, h.at_⟩, fun i hi he => ?_⟩
  · rw [t.nreqs] at hi
    rw [d1 i hi]
    exact h.dl i hi
  · rw [t.nreqs] at hi
    have := d2 i hi he
    rw [t.now]
    omega
end

/-- a drawn call, in a block of its own -/
structure AskAt (w W : World) (p : Nat) (A : Option Addr) (n c : Nat) (a : Int) (now : Int) (q : Nat) (r : Ask) (vp : Value) (a' : Int) : Prop where
  kp : Keeps (· = p) w W
  kb : Blk W p 25 #[.slice A n c, .int .i64 a']
  k9 : Blk W q 41 #[.int .i64 r.id, .int .i64 r.deadline, vp, .int .i64 r.most, .int .i64 r.seed]
  pr : Slc W (fun g => w.heap.size ≤ g) vp r.prompt
  q9 : w.heap.size ≤ q
  a0 : 0 ≤ a'
  a1 : a' ≤ a + 60
  id : r.id ≤ 9
  dl : r.deadline ≤ now + 30
  pl : r.prompt.length ≤ 100
theorem reads_lit (w : World) (t : TypeId) (xs : List Value) (size n : Nat) (hn : xs.length = n * size) : Reads (w.alloc (.cells xs.toArray t)) (· = w.heap.size) size (some ⟨w.heap.size, 0, none⟩) n xs := by
  refine ⟨hn, fun _ => ⟨_, rfl, by simp, rfl, fun j u hu => ?_⟩⟩
  have h : Blk (w.alloc (.cells xs.toArray t)) w.heap.size t xs.toArray := Blk.new w t _
  rw [Addr.add_lit, h.cell]
  simpa using hu
section
variable {W0 W W' : World} {p : Nat} {A : Option Addr} {n c : Nat} {l : List Int} {q4 B sa k : Nat} {v4 v5 v6 v7 v8 v9 v10 vrow : Value} {own own' : Nat → Slot} {P P' : Ptrs} {s s' : Srv} {a' a2 : Int} {asked : List Ask} {vps : List Value} {D : Nat → Prop}
theorem LawK.ask {now : Int} {q : Nat} {r : Ask} {vp : Value} (h : LawK W0 W p A n c l q4 B v4 v5 v6 v7 v8 v9 v10 own P s a') (ha : AskAt W W' p A n c a' now q r vp a2) : LawK W0 W' p A n c l q4 B v4 v5 v6 v7 v8 v9 v10 own P s a2 :=
  h.keep ha.kp (fun g _ e => e) (h.rep.stay ha.kp (fun g e => by subst e; exact h.low _ (Nat.lt_of_lt_of_le h.pB h.wB))) h.low ha.kb ha.a0
theorem LawK.rowed (h : LawK W0 W p A n c l q4 B v4 v5 v6 v7 v8 v9 v10 own P s a') (R : RowS W B own asked vrow vps D) (o : Obj) (hg : (W.alloc o).grownBy W' vrow.ownBlock) : LawK W0 W' p A n c l q4 B v4 v5 v6 v7 v8 v9 v10 own P s a' := by
  have hk : Keeps (fun g => vrow.ownBlock = some g) W W' := ((Keeps.refl _ W).alloc o).tr ((Keeps.refl _ _).grown hg (fun k e _ => e))
  have h1 := h.pB
  have h2 := h.wB
  exact h.keep hk (fun g hg e => by have := (R.row.2 g e).2; omega) (h.rep.stay hk fun g e => (R.row.2 g e).1) h.low (hk.blk h.str.blk (fun e => by have := (R.row.2 _ e).2; omega)) h.str.at0
/-- a call that was refused -/
theorem Mid.refused {q : Nat} {r : Ask} {vp : Value} {W7 : World} (h : Mid W0 W p A n c l q4 B sa v4 v5 v6 v7 v8 v9 v10 vrow k own P s a' asked vps D) (hk : k < 30) (ha : AskAt W W' p A n c a' k q r vp a2) (ha2 : a2 ≤ 1000 + 100 * (k + 1)) (h0 : (s.submit r).2 ≠ 0)
    (rep' : Rep W7 own' P' (s.submit r).1) (st : Step W' own P W7 own' P' s.reqs.length) : Mid W0 W7 p A n c l q4 B sa v4 v5 v6 v7 v8 v9 v10 vrow k own' P' s a2 asked vps D := by
  have hs := h.run.submit (by have := h.rec_; omega) r ha.id
  rw [if_neg h0] at hs
  rw [hs] at rep'
  have hp := h.K.pB
  have hp2 := h.K.wB
  exact ⟨(h.K.ask ha).step rep' st, (h.R.stream ha.kp (by omega)).step st, h.run, st.sa.trans h.esa, h.M, h.now, h.rec_, h.dl, ha2⟩
/-- a call that was taken: before it is put down -/
theorem Mid.taken {q : Nat} {r : Ask} {vp : Value} {W7 W8 : World} (h : Mid W0 W p A n c l q4 B sa v4 v5 v6 v7 v8 v9 v10 vrow k own P s a' asked vps D) (hk : k < 30) (ha : AskAt W W' p A n c a' k q r vp a2) (ha2 : a2 ≤ 1000 + 100 * (k + 1)) (hrec : s.records ≤ 2 * k) (h0 : (s.submit r).2 = 0)
    (rep' : Rep W7 own' P' (s.submit r).1) (st : Step W' own P W7 own' P' s.reqs.length) :
    Own W7 (fun g => own' g = .other ∧ B ≤ g) 41 5 vrow asked.length (askCells asked vps) ∧ Blk W7 q 41 #[.int .i64 r.id, .int .i64 r.deadline, vp, .int .i64 r.most, .int .i64 r.seed] ∧ asked.length ≤ 12 ∧
    ∀ o v', Appended (W7.alloc o) W8 (fun g => own' g = .other ∧ B ≤ g) 41 5 vrow v' (asked.length + 1) (askCells asked vps ++ [.int .i64 r.id, .int .i64 r.deadline, vp, .int .i64 r.most, .int .i64 r.seed]) →
      ∃ D', Mid W0 W8 p A n c l q4 B sa v4 v5 v6 v7 v8 v9 v10 v' k own' P' (s.submit r).1 a2 (asked ++ [r]) (vps ++ [vp]) D' := by
  have hs := h.run.submit (by have := h.rec_; omega) r ha.id
  rw [if_pos h0] at hs
  obtain ⟨u1, u2, u3, u4, u5, u6, -⟩ := hs
  have hp := h.K.pB
  have hp2 := h.K.wB
  have hK7 := (h.K.ask ha).step rep' st
  have hR7 := (h.R.stream ha.kp (by omega)).step st
  refine ⟨hR7.row, st.keeps.blk ha.k9 (fun e => e (h.K.rep.beyond _ ha.q9)), ?_, fun o v' happ => ?_⟩
  · rw [h.run.many]; exact h.run.ok.nreqs
  · have hsz : W'.heap.size ≤ W7.heap.size := st.keeps.size
    have hE : Slc W7 (fun g => W.heap.size ≤ g ∧ g < W'.heap.size) vp r.prompt := (ha.pr.more (T' := fun g => W.heap.size ≤ g ∧ g < W'.heap.size) (fun b hb hh => ⟨hh, hb⟩)).keeps st.keeps (fun i hi e => e (h.K.rep.beyond _ hi.1))
    obtain ⟨q1, q2⟩ := hR7.push (r := r) (vp := vp) (v' := v') rep'.beyond (Nat.le_trans h.K.sz (Nat.le_trans ha.kp.size hsz)) hE (fun g hg => ⟨by omega, Nat.le_trans h.K.sz hg.1, by rw [st.old g hg.2]; exact h.K.rep.beyond g hg.1, fun e => by have := h.R.row.lt e; omega⟩) o happ
    refine ⟨_, hK7.rowed hR7 o happ.2.1, q1, u1, st.sa.trans h.esa, u4.trans h.M, u3.trans h.now, by rw [u2]; omega, fun i hi => ?_, ha2⟩
    rcases u6 i hi with e | ⟨e1, e2⟩
    · rw [e]; have := ha.dl; omega
    · rw [e2]; exact h.dl i e1
end

/-- What loop 2 keeps. -/
structure Loop2 (W0 W : World) (p : Nat) (A : Option Addr) (n c : Nat) (l : List Int) (q4 B sa : Nat) (v4 v5 v6 v7 v8 v9 v10 : Value) (vrow : Value) (own : Nat → Slot) (P : Ptrs) (s : Srv) (a' : Int) (asked : List Ask) (vps : List Value) (D : Nat → Prop) : Prop where
  K : LawK W0 W p A n c l q4 B v4 v5 v6 v7 v8 v9 v10 own P s a'
  R : RowS W B own asked vrow vps D
  run : Run s asked
  esa : P.sa = sa
  M : s.M = demoM
  rec_ : s.records ≤ 100 + s.now
  dl : ∀ i, i < s.reqs.length → (s.req i).deadline ≤ 60
  hop : ∀ i, i < s.reqs.length → (s.req i).ended = false → (s.now : Int) ≤ (s.req i).deadline
section
variable {W0 W W' : World} {p : Nat} {A : Option Addr} {n c : Nat} {l : List Int} {q4 B sa k : Nat} {v4 v5 v6 v7 v8 v9 v10 vrow : Value} {own own' : Nat → Slot} {P P' : Ptrs} {s s' : Srv} {a' a2 : Int} {asked : List Ask} {vps : List Value} {D : Nat → Prop}
theorem Loop2.fresh (h : Loop2 W0 W p A n c l q4 B sa v4 v5 v6 v7 v8 v9 v10 vrow own P s a' asked vps D) (hb : Below W.heap.size W W') : Loop2 W0 W' p A n c l q4 B sa v4 v5 v6 v7 v8 v9 v10 vrow own P s a' asked vps D :=
  ⟨h.K.fresh hb, h.R.fresh hb, h.run, h.esa, h.M, h.rec_, h.dl, h.hop⟩
theorem Loop2.open_ (h : Loop2 W0 W p A n c l q4 B sa v4 v5 v6 v7 v8 v9 v10 vrow own P s a' asked vps D) (hw : s.waiting.length ≠ 0) : s.now ≤ 60 := by
  unfold Srv.waiting at hw
  rw [List.length_map] at hw
  obtain ⟨i, hi⟩ := List.exists_mem_of_length_pos (Nat.pos_of_ne_zero hw)
  obtain ⟨h1, h2⟩ := (s.open_mem i).1 hi
  have := h.dl i h1
  have := h.hop i h1 h2
  omega
theorem Loop2.tick (h : Loop2 W0 W p A n c l q4 B sa v4 v5 v6 v7 v8 v9 v10 vrow own P s a' asked vps D) (hk : s.now ≤ 60) (rep' : Rep W' own' P' s.tick) (st : Step W own P W' own' P' s.reqs.length) :
    Loop2 W0 W' p A n c l q4 B sa v4 v5 v6 v7 v8 v9 v10 vrow own' P' s.tick a' asked vps D ∧ s.tick.now = s.now + 1 := by
  obtain ⟨r1, t, d1, d2⟩ := h.run.tick (by have := h.rec_; omega)
  refine ⟨⟨h.K.step rep' st, h.R.step st, r1, st.sa.trans h.esa, by rw [t.M]; exact h.M, by rw [t.records, t.now]; have := h.rec_; omega, fun i hi => ?_, fun i hi he => ?_⟩, t.now⟩
  · rw [t.nreqs] at hi
    rw [d1 i hi]
    exact h.dl i hi
  · rw [t.nreqs] at hi
    have := d2 i hi he
    rw [t.now]
    omega
theorem IsAlone.le {M : Model} {seed : Int} {p : List Int} {most : Int} {K : Nat} (h : IsAlone M seed p most K) (hm : 1 ≤ most) : (K : Int) ≤ most := by
  rcases Int.lt_or_le most K with hlt | hle
  · exact absurd (Or.inr (by omega)) (h.first (most.toNat - 1) (by omega))
  · exact hle
theorem Run.sync {s : Srv} {asked : List Ask} (h : Run s asked) (y : Nat) : Run { s with synced := y } asked :=
  ⟨⟨h.ok.M, h.ok.kind, h.ok.c, h.ok.npages, h.ok.nreqs, h.ok.distinct, fun i hi => (h.ok.reqs i hi).move rfl rfl rfl (Nat.le_refl _), h.ok.ptok, h.ok.records, h.ok.now, h.ok.log⟩, h.ids, h.replay, h.now, h.good, h.many, h.ask⟩
theorem Run.askedOk {s : Srv} {asked : List Ask} (h : Run s asked) (i : Nat) (r : Ask) (hr : asked[i]? = some r) :
    (1 ≤ r.most ∧ r.most ≤ 32) ∧ (-2147483648 ≤ r.seed ∧ r.seed ≤ 2147483647) ∧ (1 ≤ r.prompt.length ∧ r.prompt.length ≤ 32) ∧ (∀ t ∈ r.prompt, 0 ≤ t ∧ t < (s.M.vocab : Int)) ∧ 1 ≤ r.id ∧ r.id ≤ 1000000 := by
  have hi : i < s.reqs.length := by rw [← h.many]; exact (List.getElem?_eq_some_iff.1 hr).1
  obtain ⟨e1, e2, e3, e4, e5⟩ := h.ask i r hr
  have ho := h.ok.reqs i hi
  have hg := h.good i hi
  rw [← e1, ← e3, ← e4, ← e5]
  exact ⟨ho.most, ho.seed, ho.prompt, fun t ht => ho.toks t (by rw [hg.toks]; exact List.mem_append_left _ ht), ho.id⟩
theorem RowS.at_ (h : RowS W B own asked vrow vps D) (i : Nat) (hi : i < asked.length) : ∃ (g cap : Nat) (r : Ask) (vp : Value), vrow = .slice (some ⟨g, 0, none⟩) asked.length cap ∧ asked[i]? = some r ∧ g < W.heap.size ∧ Slc W D vp r.prompt ∧
    W.cell? ⟨g, i * 5, none⟩ = some (.int .i64 r.id) ∧ W.cell? ⟨g, i * 5 + 1, none⟩ = some (.int .i64 r.deadline) ∧ W.cell? ⟨g, i * 5 + 2, none⟩ = some vp ∧ W.cell? ⟨g, i * 5 + 3, none⟩ = some (.int .i64 r.most) ∧ W.cell? ⟨g, i * 5 + 4, none⟩ = some (.int .i64 r.seed) := by
  obtain ⟨g, cap, hv, -, -, hlt, -⟩ := h.row.form (by omega)
  have hr := h.row
  rw [hv] at hr
  obtain ⟨vp, hvp, hs⟩ := h.prm.2 i (by simpa using hi)
  have hri : asked[i]? = some asked[i] := List.getElem?_eq_getElem hi
  obtain ⟨c0, c1, c2, c3, c4⟩ := askCells_get asked vps i _ vp hri hvp
  obtain ⟨ad, e, -, -, hc⟩ := hr.reads.2 (by omega)
  injection e with e
  subst e
  have key : ∀ j u, (askCells asked vps)[j]? = some u → W.cell? ⟨g, j, none⟩ = some u := fun j u hu => by
    have := hc j u hu
    rwa [Addr.add_lit, Nat.zero_add] at this
  refine ⟨g, cap, _, vp, hv, hri, hlt, ?_, key _ _ c0, key _ _ c1, key _ _ c2, key _ _ c3, key _ _ c4⟩
  simpa using hs
end

set_option maxRecDepth 100000 in
set_option maxHeartbeats 4000000 in
theorem serveAlone_walk (w : World) (A : Option Addr) (n c : Nat) (l : List Int) (hr : Reads w (fun _ => True) 1 A n (ints l)) (hwf : ∀ x ∈ l, -9223372036854775808 ≤ x ∧ x ≤ 9223372036854775807) (hn : n ≤ 9223372036854775807) :
    Calls Tryz.prog 3 #[.slice A n c] w fun e w' => e = .returned (.bool true) ∧ Below w.heap.size w w' := by
  have hs0 : Str (w.alloc (.cells #[.slice A n c, .int .i64 0] 25)) w.heap.size A n c l 0 := by
    refine ⟨Blk.new _ _ _, ?_, hwf, hn, Int.le_refl 0⟩
    have := (hr.old.alloc (.cells #[.slice A n c, .int .i64 0] 25))
    exact this.more fun b _ h => Nat.ne_of_lt h
  have HS0 := Lib.hid hs0
  have hp0 : w.heap.size < (w.alloc (.cells #[.slice A n c, .int .i64 0] 25)).heap.size := by simp
  have hbw0 : Below w.heap.size w (w.alloc (.cells #[.slice A n c, .int .i64 0] 25)) := (Below.refl _ _).alloc (Nat.le_refl _) _
  have HW0 : Hid (∀ W, Keeps (· = w.heap.size) (w.alloc (.cells #[.slice A n c, .int .i64 0] 25)) W → Below w.heap.size w W) := Lib.hid fun W k =>
    ⟨k.os.trans hbw0.os, k.tape.trans hbw0.tape, k.output.trans hbw0.output, Nat.le_trans hbw0.size k.size, fun g hg => (k.block g (by omega) (by omega)).trans (hbw0.block g hg)⟩
  have HZ0 : Hid ((w.alloc (.cells #[.slice A n c, .int .i64 0] 25)).heap.size = w.heap.size + 1) := Lib.hid (by simp)
  have HNEW : Hid (∀ (C : CConf) (hc : C.Ok) (w : World) (T : Nat → Prop) (v4 v5 v6 v7 v8 v9 v10 : Value), MSl w T demoM v4 v5 v6 v7 v8 v9 v10 → Calls Tryz.prog 7 #[.agg #[.int .i64 1, .int .i64 8, .int .i64 4, .int .i64 8, v4, v5, v6, v7, v8, v9, v10], .agg #[.int .i64 C.pages, .int .i64 C.pageSize, .int .i64 C.batch, .int .i64 C.queue]] w fun e w' => ∃ own P, e = .returned (.tuple #[.pointer (some ⟨P.sa, 0, none⟩), .int .i64 0]) ∧ Rep w' own P (Srv.init demoM C) ∧ (∀ g, g < w.heap.size → own g = .other) ∧ Below w.heap.size w w') :=
    Lib.hid (fun C hc w T v4 v5 v6 v7 v8 v9 v10 h => new_any w T demoM v4 v5 v6 v7 v8 v9 v10 h demo_ok rfl C hc)
  have HBAD : Hid (∀ (x1 x2 x3 x4 : Int) (hb : (win x1 1 64 && win x2 1 8 && win x3 1 16 && win x4 1 32) = false) (w : World) (T : Nat → Prop) (v4 v5 v6 v7 v8 v9 v10 : Value), MSl w T demoM v4 v5 v6 v7 v8 v9 v10 → Calls Tryz.prog 7 #[.agg #[.int .i64 1, .int .i64 8, .int .i64 4, .int .i64 8, v4, v5, v6, v7, v8, v9, v10], .agg #[.int .i64 x1, .int .i64 x2, .int .i64 x3, .int .i64 x4]] w fun e w' => e = .returned (.tuple #[.pointer none, .int .i64 9]) ∧ Below w.heap.size w w') :=
    Lib.hid (fun x1 x2 x3 x4 hb w T v4 v5 v6 v7 v8 v9 v10 h => new_bad w T demoM v4 v5 v6 v7 v8 v9 v10 h demo_ok x1 x2 x3 x4 hb)
  have HINI : Hid (∀ (C : CConf), C.Ok → Run (Srv.init demoM C) [] ∧ (Srv.init demoM C).M = demoM ∧ (Srv.init demoM C).now = 0 ∧ (Srv.init demoM C).records = 0 ∧ (Srv.init demoM C).reqs.length = 0) :=
    Lib.hid fun C hc => ⟨Run.init demoM demo_ok rfl C hc (init_ok demoM demo_ok rfl C hc), rfl, rfl, rfl, rfl⟩
  have HASK : Hid (∀ (w : World) (p : Nat) (A : Option Addr) (n c : Nat) (l : List Int) (a : Int), Str w p A n c l a → a ≤ 900000 → ∀ (v4 v5 v6 v7 v8 v9 v10 : Value) (now : Int), 0 ≤ now ∧ now ≤ 10000 →
      Calls Tryz.prog 11 #[.pointer (some ⟨p, 0, none⟩), .agg #[.int .i64 1, .int .i64 8, .int .i64 4, .int .i64 8, v4, v5, v6, v7, v8, v9, v10], .int .i64 now] w (AskPost w p A n c l a 60 fun r => r.id ≤ 9 ∧ 0 ≤ r.deadline ∧ r.deadline ≤ now + 30 ∧ r.prompt.length ≤ 100)) :=
    Lib.hid fun w p A n c l a h ha v4 v5 v6 v7 v8 v9 v10 now hn => asked_any w p A n c l a h ha demoM v4 v5 v6 v7 v8 v9 v10 ⟨by decide, by decide⟩ now hn
  have HAL : Hid (∀ (w : World) (T Tp : Nat → Prop) (v4 v5 v6 v7 v8 v9 v10 : Value) (h : MSl w T demoM v4 v5 v6 v7 v8 v9 v10) (r : Ask) (vp : Value) (hp : Slc w Tp vp r.prompt)
      (hmost : 1 ≤ r.most ∧ r.most ≤ 32) (hseed : -2147483648 ≤ r.seed ∧ r.seed ≤ 2147483647) (hpl : 1 ≤ r.prompt.length ∧ r.prompt.length ≤ 32) (htok : ∀ t ∈ r.prompt, 0 ≤ t ∧ t < (demoM.vocab : Int)),
      Calls Tryz.prog 18 #[.agg #[.int .i64 1, .int .i64 8, .int .i64 4, .int .i64 8, v4, v5, v6, v7, v8, v9, v10], askVal vp r] w fun e w' => ∃ (v : Value) (K : Nat), e = .returned (.tuple #[v, .int .i64 0]) ∧ IsAlone demoM r.seed r.prompt r.most K ∧ Own w' (fun g => w.heap.size ≤ g) 3 1 v K (ints (gen demoM r.seed r.prompt K)) ∧ Below w.heap.size w w') :=
    Lib.hid fun w T Tp v4 v5 v6 v7 v8 v9 v10 h r vp hp h1 h2 h3 h4 => alone_any w T Tp demoM v4 v5 v6 v7 v8 v9 v10 h demo_ok rfl r vp hp h1 h2 h3 h4
  clear hr hwf hn hs0 hbw0
  go_enter Tryz.func3, Tryz.ntmps3
  go_wp2_with fail
  generalize w.alloc (.cells #[.slice A n c, .int .i64 0] 25) = w0 at *
  refine (demo_any w0).mono ?_
  rintro e w1 ⟨v4, v5, v6, v7, v8, v9, v10, rfl, hm1, hb1⟩
  have HM1 := Lib.hid hm1
  have HS1 := Lib.hid (HS0.out.fresh hb1)
  have HB1 := Lib.hid hb1
  have hz1 := hb1.size
  obtain ⟨A4, N4, c4, rfl⟩ := hm1.cuts.sl
  obtain ⟨A5, N5, c5, rfl⟩ := hm1.embed.sl
  obtain ⟨A6, N6, c6, rfl⟩ := hm1.place.sl
  obtain ⟨A7, N7, c7, rfl⟩ := hm1.mix.sl
  obtain ⟨A8, N8, c8, rfl⟩ := hm1.out.sl
  obtain ⟨A9, N9, c9, rfl⟩ := hm1.soft.sl
  obtain ⟨A10, N10, c10, rfl⟩ := hm1.odds.sl
  clear hm1 hb1
  go_wp2_with fail
  refine (conf_any w1 w.heap.size A n c l 0 HS1.out (by omega)).mono ?_
  rintro e w2 ⟨x1, x2, x3, x4, a2, rfl, b1, b2, b3, b4, g2, g2', hs2, k2⟩
  have hz2 := k2.size
  have HS2 := Lib.hid hs2
  have KA := Lib.hid (((Keeps.of_below HB1.out (· = w.heap.size)).tr k2))
  have HM2 := Lib.hid (HM1.out.keeps k2 (fun i hi e => by omega))
  clear hs2 k2 HB1 HM1 HS1
  go_wp2_with fail
  cases hwin : (win x1 1 64 && win x2 1 8 && win x3 1 16 && win x4 1 32) with
  | false =>
    have HW := Lib.hid hwin
    clear hwin
    refine (HBAD.out x1 x2 x3 x4 HW.out _ _ _ _ _ _ _ _ _ ((HM2.out.alloc _).alloc _)).mono ?_
    rintro e w3 ⟨rfl, hb3⟩
    have K3 := Lib.hid ((((KA.out.alloc _).alloc _).fresh hb3))
    clear hb3
    go_wp2_with fail
    refine (served_any w3).mono ?_
    rintro e w4 ⟨rfl, hb4⟩
    have K4 := Lib.hid (K3.out.fresh hb4)
    clear hb4
    go_wp2_with fail
    go_ret
    exact ⟨rfl, HW0.out _ K4.out⟩
  | true =>
    obtain ⟨C, hc, rfl, rfl, rfl, rfl⟩ := conf_ok x1 x2 x3 x4 hwin
    clear hwin b1 b2 b3 b4
    obtain ⟨i1, i2, i3, i4, i5⟩ := HINI.out C hc
    have HNC := Lib.hid (HNEW.out C hc)
    generalize Srv.init demoM C = s0 at *
    have hk4 := (Blk.new w2 27 #[.int .i64 1, .int .i64 8, .int .i64 4, .int .i64 8, .slice A4 N4 c4, .slice A5 N5 c5, .slice A6 N6 c6, .slice A7 N7 c7, .slice A8 N8 c8, .slice A9 N9 c9, .slice A10 N10 c10]).alloc (.cells #[.int .i64 C.pages, .int .i64 C.pageSize, .int .i64 C.batch, .int .i64 C.queue] 30)
    have hmm := (HM2.out.alloc (.cells #[.int .i64 1, .int .i64 8, .int .i64 4, .int .i64 8, .slice A4 N4 c4, .slice A5 N5 c5, .slice A6 N6 c6, .slice A7 N7 c7, .slice A8 N8 c8, .slice A9 N9 c9, .slice A10 N10 c10] 27)).alloc (.cells #[.int .i64 C.pages, .int .i64 C.pageSize, .int .i64 C.batch, .int .i64 C.queue] 30)
    have hka := (KA.out.alloc (.cells #[.int .i64 1, .int .i64 8, .int .i64 4, .int .i64 8, .slice A4 N4 c4, .slice A5 N5 c5, .slice A6 N6 c6, .slice A7 N7 c7, .slice A8 N8 c8, .slice A9 N9 c9, .slice A10 N10 c10] 27)).alloc (.cells #[.int .i64 C.pages, .int .i64 C.pageSize, .int .i64 C.batch, .int .i64 C.queue] 30)
    have hsa := (HS2.out.alloc (.cells #[.int .i64 1, .int .i64 8, .int .i64 4, .int .i64 8, .slice A4 N4 c4, .slice A5 N5 c5, .slice A6 N6 c6, .slice A7 N7 c7, .slice A8 N8 c8, .slice A9 N9 c9, .slice A10 N10 c10] 27)).alloc (.cells #[.int .i64 C.pages, .int .i64 C.pageSize, .int .i64 C.batch, .int .i64 C.queue] 30)
    have hzz : ((w2.alloc (.cells #[.int .i64 1, .int .i64 8, .int .i64 4, .int .i64 8, .slice A4 N4 c4, .slice A5 N5 c5, .slice A6 N6 c6, .slice A7 N7 c7, .slice A8 N8 c8, .slice A9 N9 c9, .slice A10 N10 c10] 27)).alloc (.cells #[.int .i64 C.pages, .int .i64 C.pageSize, .int .i64 C.batch, .int .i64 C.queue] 30)).heap.size = w2.heap.size + 2 := by simp
    have HI1 := Lib.hid i1
    have HI2 := Lib.hid i2
    have HI3 := Lib.hid i3
    have HI4 := Lib.hid i4
    have HI5 := Lib.hid i5
    have HK4 := Lib.hid hk4
    have HMM := Lib.hid hmm
    have HKA := Lib.hid hka
    have HSA := Lib.hid hsa
    clear i1 i2 i3 i4 i5 hk4 hmm hka hsa hc
    generalize (w2.alloc (.cells #[.int .i64 1, .int .i64 8, .int .i64 4, .int .i64 8, .slice A4 N4 c4, .slice A5 N5 c5, .slice A6 N6 c6, .slice A7 N7 c7, .slice A8 N8 c8, .slice A9 N9 c9, .slice A10 N10 c10] 27)).alloc (.cells #[.int .i64 C.pages, .int .i64 C.pageSize, .int .i64 C.batch, .int .i64 C.queue] 30) = wB at *
    refine (HNC.out _ _ _ _ _ _ _ _ _ HMM.out).mono ?_
    rintro e w3 ⟨own, P, rfl, hrep, hlow, hb3⟩
    have hz3 := hb3.size
    have hK : LawK w0 w3 w.heap.size A n c l w2.heap.size wB.heap.size (.slice A4 N4 c4) (.slice A5 N5 c5) (.slice A6 N6 c6) (.slice A7 N7 c7) (.slice A8 N8 c8) (.slice A9 N9 c9) (.slice A10 N10 c10) own P s0 a2 :=
      ⟨hrep, ⟨0, HS0.out⟩, HKA.out.fresh hb3, HSA.out.fresh hb3, HK4.out.below hb3 (by omega), (HMM.out.more (T' := fun g => w0.heap.size ≤ g ∧ g < wB.heap.size) (fun g hg h => ⟨h, hg⟩)).fresh hb3, hlow, hp0, by omega, by omega, by omega, hz3⟩
    have c1 : w3.cell? ⟨w2.heap.size, 1, none⟩ = some (.int .i64 8) := hK.k4.cell 1
    have HKL := Lib.hid hK
    have HB3 := Lib.hid hb3
    clear hrep hlow hb3 hK HNC HK4 HMM HKA HSA HNEW HBAD HM2 KA HS2 HS0 HINI
    go_wp2_with fail
    refine (range_any _ w.heap.size A n c l a2 _ _ HKL.out.str (by omega) (by omega) (by omega) (by omega)).mono ?_
    rintro e w4 ⟨cnt, a3, rfl, ⟨t1, t2⟩, g3, g3', hs4, k4⟩
    have HK5 := Lib.hid (HKL.out.stream hs4 k4)
    obtain ⟨cn, hcn⟩ : ∃ cn : Nat, cnt = cn := Int.eq_ofNat_of_zero_le (by omega)
    subst hcn
    obtain ⟨esa, hesa⟩ : ∃ sa, sa = P.sa := ⟨_, rfl⟩
    have HES := Lib.hid hesa
    rw [← hesa]
    have hz4 := HK5.out.sz
    obtain ⟨vB, hvB⟩ : ∃ vB, vB = wB.heap.size := ⟨_, rfl⟩
    have HVB := Lib.hid hvB
    have hL1 : Loop1 w0 w4 w.heap.size A n c l w2.heap.size wB.heap.size esa (.slice A4 N4 c4) (.slice A5 N5 c5) (.slice A6 N6 c6) (.slice A7 N7 c7) (.slice A8 N8 c8) (.slice A9 N9 c9) (.slice A10 N10 c10) (.slice none 0 0) 0 own P s0 a3 [] [] (fun _ => False) :=
      ⟨HK5.out, ⟨Own.nil_ _ _ _ _, Rows.nil_ _ _, fun g hg => hg.elim⟩, HI1.out, HES.out.symm, HI2.out, HI3.out, by rw [HI4.out]; omega, fun i hi => by rw [HI5.out] at hi; omega, by omega⟩
    have HL1 := Lib.hid hL1
    clear hs4 k4 hesa hvB hL1 c1 HKL
    go_wp2_with fail
    go_loopw [8, 45] (fun vrow x wr => ∃ (k : Nat) (own : Nat → Slot) (P : Ptrs) (s : Srv) (a' : Int) (asked : List Ask) (vps : List Value) (D : Nat → Prop), k ≤ cn ∧ x = .int .i64 k ∧ Loop1 w0 wr w.heap.size A n c l w2.heap.size wB.heap.size esa (.slice A4 N4 c4) (.slice A5 N5 c5) (.slice A6 N6 c6) (.slice A7 N7 c7) (.slice A8 N8 c8) (.slice A9 N9 c9) (.slice A10 N10 c10) vrow k own P s a' asked vps D ∧
      (1 ≤ k → ∀ i, i < s.reqs.length → (s.req i).ended = false → (s.now : Int) ≤ (s.req i).deadline)) (fun _ x _ => cn - (intOf x).toNat)
    case atStart => exact ⟨0, own, P, s0, a3, [], [], _, by omega, rfl, HL1.out, fun h => by omega⟩
    clear HL1 HI1 HI2 HI3 HI4 HI5 HK5 HES
    obtain ⟨k, own1, P1, s1, a4, asked, vps, D, hk, rfl, hL, hop⟩ := hrel
    have HL := Lib.hid hL
    have HOP := Lib.hid hop
    clear hL hop
    by_cases hlt : k < cn
    · have hatb := HL.out.at_
      have hpB : w.heap.size < wB.heap.size := by omega
      have HREC := Lib.hid HL.out.rec_
      go_wp2_with fail
      refine (flip_any wr w.heap.size A n c l a4 2 HL.out.K.str (by omega) (by omega)).mono ?_
      rintro e w5 ⟨b, a5, rfl, g5, g5', hs5, k5⟩
      have HM5 : Hid (Mid w0 w5 w.heap.size A n c l w2.heap.size wB.heap.size esa (.slice A4 N4 c4) (.slice A5 N5 c5) (.slice A6 N6 c6) (.slice A7 N7 c7) (.slice A8 N8 c8) (.slice A9 N9 c9) (.slice A10 N10 c10) u8 k own1 P1 s1 a5 asked vps D) :=
        Lib.hid ⟨HL.out.K.stream hs5 k5, HL.out.R.stream k5 hpB, HL.out.run, HL.out.esa, HL.out.M, HL.out.now, by have := HL.out.rec_; omega, HL.out.dl, by omega⟩
      clear hs5 k5 HL HOP
      go_upto_if 48 with (fail)
      go_cut [8] (fun vrow wc => ∃ (own2 : Nat → Slot) (P2 : Ptrs) (s2 : Srv) (a7 : Int) (asked2 : List Ask) (vps2 : List Value) (D2 : Nat → Prop), Mid w0 wc w.heap.size A n c l w2.heap.size wB.heap.size esa (.slice A4 N4 c4) (.slice A5 N5 c5) (.slice A6 N6 c6) (.slice A7 N7 c7) (.slice A8 N8 c8) (.slice A9 N9 c9) (.slice A10 N10 c10) vrow k own2 P2 s2 a7 asked2 vps2 D2)
      case first =>
        cases b with
        | false =>
          go_wp2_with fail
          go_meet
          exact ⟨own1, P1, s1, a5, asked, vps, D, HM5.out⟩
        | true =>
          have m0 : w5.cell? ⟨w2.heap.size, 0, none⟩ = some (.int .i64 1) := HM5.out.K.k4.cell 0
          have m1 : w5.cell? ⟨w2.heap.size, 1, none⟩ = some (.int .i64 8) := HM5.out.K.k4.cell 1
          have m2 : w5.cell? ⟨w2.heap.size, 2, none⟩ = some (.int .i64 4) := HM5.out.K.k4.cell 2
          have m3 : w5.cell? ⟨w2.heap.size, 3, none⟩ = some (.int .i64 8) := HM5.out.K.k4.cell 3
          have m4 : w5.cell? ⟨w2.heap.size, 4, none⟩ = some (.slice A4 N4 c4) := HM5.out.K.k4.cell 4
          have m5 : w5.cell? ⟨w2.heap.size, 5, none⟩ = some (.slice A5 N5 c5) := HM5.out.K.k4.cell 5
          have m6 : w5.cell? ⟨w2.heap.size, 6, none⟩ = some (.slice A6 N6 c6) := HM5.out.K.k4.cell 6
          have m7 : w5.cell? ⟨w2.heap.size, 7, none⟩ = some (.slice A7 N7 c7) := HM5.out.K.k4.cell 7
          have m8 : w5.cell? ⟨w2.heap.size, 8, none⟩ = some (.slice A8 N8 c8) := HM5.out.K.k4.cell 8
          have m9 : w5.cell? ⟨w2.heap.size, 9, none⟩ = some (.slice A9 N9 c9) := HM5.out.K.k4.cell 9
          have m10 : w5.cell? ⟨w2.heap.size, 10, none⟩ = some (.slice A10 N10 c10) := HM5.out.K.k4.cell 10
          have hnw := fun W (h : Rep W own1 P1 s1) => now_any W own1 P1 s1 h
          rw [HM5.out.esa, HM5.out.now] at hnw
          have HNW := Lib.hid hnw
          have zq : w2.heap.size < w5.heap.size := HM5.out.K.k4.lt
          have zp : w2.heap.size ≠ w.heap.size := by omega
          have hp5 : w.heap.size < w5.heap.size := by omega
          clear hnw
          go_wp2_with fail
          go_cut [9] (fun x9 wc => ∃ (q9 : Nat) (r : Ask) (vp : Value) (a6 : Int), x9 = .pointer (some ⟨q9, 0, none⟩) ∧ AskAt w5 wc w.heap.size A n c a5 k q9 r vp a6)
          case first =>
            go_region_held3 (fun w' => w'.cell? ⟨w2.heap.size, 0, none⟩ = some (.int .i64 1) ∧ w'.cell? ⟨w2.heap.size, 1, none⟩ = some (.int .i64 8) ∧ w'.cell? ⟨w2.heap.size, 2, none⟩ = some (.int .i64 4) ∧ w'.cell? ⟨w2.heap.size, 3, none⟩ = some (.int .i64 8) ∧ w'.cell? ⟨w2.heap.size, 4, none⟩ = some (.slice A4 N4 c4) ∧ w'.cell? ⟨w2.heap.size, 5, none⟩ = some (.slice A5 N5 c5) ∧ w'.cell? ⟨w2.heap.size, 6, none⟩ = some (.slice A6 N6 c6) ∧ w'.cell? ⟨w2.heap.size, 7, none⟩ = some (.slice A7 N7 c7) ∧ w'.cell? ⟨w2.heap.size, 8, none⟩ = some (.slice A8 N8 c8) ∧ w'.cell? ⟨w2.heap.size, 9, none⟩ = some (.slice A9 N9 c9) ∧ w'.cell? ⟨w2.heap.size, 10, none⟩ = some (.slice A10 N10 c10)) (first | with_reducible exact ⟨(bc _ _ zq zp).trans m0, (bc _ _ zq zp).trans m1, (bc _ _ zq zp).trans m2, (bc _ _ zq zp).trans m3, (bc _ _ zq zp).trans m4, (bc _ _ zq zp).trans m5, (bc _ _ zq zp).trans m6, (bc _ _ zq zp).trans m7, (bc _ _ zq zp).trans m8, (bc _ _ zq zp).trans m9, (bc _ _ zq zp).trans m10⟩ | with_reducible exact ⟨((kc _ _ _ _ _ _ _ zq).trans (bc _ _ zq zp)).trans m0, ((kc _ _ _ _ _ _ _ zq).trans (bc _ _ zq zp)).trans m1, ((kc _ _ _ _ _ _ _ zq).trans (bc _ _ zq zp)).trans m2, ((kc _ _ _ _ _ _ _ zq).trans (bc _ _ zq zp)).trans m3, ((kc _ _ _ _ _ _ _ zq).trans (bc _ _ zq zp)).trans m4, ((kc _ _ _ _ _ _ _ zq).trans (bc _ _ zq zp)).trans m5, ((kc _ _ _ _ _ _ _ zq).trans (bc _ _ zq zp)).trans m6, ((kc _ _ _ _ _ _ _ zq).trans (bc _ _ zq zp)).trans m7, ((kc _ _ _ _ _ _ _ zq).trans (bc _ _ zq zp)).trans m8, ((kc _ _ _ _ _ _ _ zq).trans (bc _ _ zq zp)).trans m9, ((kc _ _ _ _ _ _ _ zq).trans (bc _ _ zq zp)).trans m10⟩ | go_keep) ((first
              | (go_at_call 12; refine (HNW.out _ (by first | with_reducible exact HM5.out.K.rep.drew | with_reducible exact (HM5.out.K.rep.alloc _).drew)).mono ?_; rintro e w' ⟨rfl, rfl⟩)
              | (go_at_call 11; refine (HASK.out _ w.heap.size A n c l a5 (by first | with_reducible exact HM5.out.K.str.drew | with_reducible exact (HM5.out.K.str.alloc _).drew) (by omega) _ _ _ _ _ _ _ (k : Int) ⟨by omega, by omega⟩).mono ?_; rintro e w6 ⟨r, vp, a6, rfl, ⟨r1, r2, r3, r4⟩, hsl, g6, g6', hs6, k6⟩; obtain ⟨Cp, cc, rfl⟩ := hsl.len; have bc : ∀ b o, b < w5.heap.size → b ≠ w.heap.size → w6.cell? ⟨b, o, none⟩ = w5.cell? ⟨b, o, none⟩ := (fun b o h1 h2 => by first | with_reducible exact (Keeps.undrew k6).cell (p := ⟨b, o, none⟩) h1 h2 | with_reducible exact (Keeps.unalloc k6).cell (p := ⟨b, o, none⟩) h1 h2); obtain ⟨np, hnp⟩ : ∃ np, np = r.prompt.length := ⟨_, rfl⟩; unfold askVal; rw [← hnp]; have HNP := Lib.hid hnp; clear hnp;
                  (first | (have kz : Blk w6 w5.heap.size 41 #[.int .i64 0, .int .i64 0, .slice none 0 0, .int .i64 0, .int .i64 0] := (by with_reducible exact (Keeps.undrew k6).blk (Blk.new w5 41 #[.int .i64 0, .int .i64 0, .slice none 0 0, .int .i64 0, .int .i64 0]) (Nat.ne_of_gt hp5)); have kc : ∀ b o u0 u1 u2 u3 u4, b < w5.heap.size → (((((w6.setCell ⟨w5.heap.size, 0, none⟩ u0).setCell ⟨w5.heap.size, 1, none⟩ u1).setCell ⟨w5.heap.size, 2, none⟩ u2).setCell ⟨w5.heap.size, 3, none⟩ u3).setCell ⟨w5.heap.size, 4, none⟩ u4).cell? ⟨b, o, none⟩ = w6.cell? ⟨b, o, none⟩ := (fun b o u0 u1 u2 u3 u4 h => (keeps5 w6 w5.heap.size u0 u1 u2 u3 u4).cell (p := ⟨b, o, none⟩) (Nat.lt_trans h kz.lt) (Nat.ne_of_lt h)); have d0 := kz.cell 0; have d1 := kz.cell 1; have d2 := kz.cell 2; have d3 := kz.cell 3; have d4 := kz.cell 4; have f0 := kz.frozen 0; have f1 := kz.frozen 1; have f2 := kz.frozen 2; have f3 := kz.frozen 3; have f4 := kz.frozen 4) | skip); try dsimp only)))
            all_goals
              go_wp2_with fail
              go_meet
              first
                | exact ⟨w6.heap.size, r, .slice Cp np cc, a6, rfl, ⟨(Keeps.undrew k6).alloc _, (hs6.alloc _).blk, Blk.new w6 _ _, by rw [HNP.out]; exact (hsl.alloc _).more (fun g _ h => h), (Keeps.undrew k6).size, hs6.at0, g6', r1, r3, r4⟩⟩
                | exact ⟨w5.heap.size, r, .slice Cp np cc, a6, rfl, ⟨(Keeps.unalloc k6).trans (keeps5 w6 w5.heap.size _ _ _ _ _) (fun i hi e => by omega), (keeps5 w6 w5.heap.size _ _ _ _ _).blk hs6.blk (Nat.ne_of_lt hp5), blk5 w6 w5.heap.size _ _ _ _ _ _ _ _ _ _ _ kz, by rw [HNP.out]; exact (hsl.keeps (keeps5 w6 w5.heap.size _ _ _ _ _) (fun i hi e => by have hi2 : (w5.alloc _).heap.size ≤ i := hi; simp at hi2; omega)).more (fun g _ h => by have hi2 : (w5.alloc _).heap.size ≤ g := h; simp at hi2; omega), Nat.le_refl _, hs6.at0, g6', r1, r3, r4⟩⟩
          case rest =>
            obtain ⟨q9, r, vp, a6, rfl, haa⟩ := hcut
            obtain ⟨Cp, cc, rfl⟩ := haa.pr.len
            obtain ⟨np, hnp⟩ : ∃ np, np = r.prompt.length := ⟨_, rfl⟩
            rw [← hnp] at haa
            have hpl := haa.pl
            have ha1 := haa.a1
            have hsub := submit_any wc own1 P1 s1 (HM5.out.K.ask haa).rep HM5.out.run.ok (by have := HREC.out; omega) r _ _ haa.pr (by omega)
            rw [HM5.out.esa] at hsub
            unfold askVal at hsub
            rw [← hnp] at hpl
            have hfit := haa.pr
            have e0 : wc.cell? ⟨q9, 0, none⟩ = some (.int .i64 r.id) := haa.k9.cell 0
            have e1 : wc.cell? ⟨q9, 1, none⟩ = some (.int .i64 r.deadline) := haa.k9.cell 1
            have e2 : wc.cell? ⟨q9, 2, none⟩ = some (.slice Cp np cc) := haa.k9.cell 2
            have e3 : wc.cell? ⟨q9, 3, none⟩ = some (.int .i64 r.most) := haa.k9.cell 3
            have e4 : wc.cell? ⟨q9, 4, none⟩ = some (.int .i64 r.seed) := haa.k9.cell 4
            have HSUB := Lib.hid hsub
            have HAA := Lib.hid haa
            have HTA := Lib.hid (fun W7 W8 own' P' h0 rep' st => Mid.taken (W7 := W7) (W8 := W8) (own' := own') (P' := P') HM5.out (by omega) haa (by omega) HREC.out h0 rep' st)
            have HRE := Lib.hid (fun W7 own' P' h0 rep' st => Mid.refused (W7 := W7) (own' := own') (P' := P') HM5.out (by omega) haa (by omega) h0 rep' st)
            have HNP := Lib.hid hnp
            clear hnp hsub haa hfit m0 m1 m2 m3 m4 m5 m6 m7 m8 m9 m10
            go_wp2_with fail
            refine HSUB.out.mono ?_
            rintro e w7 ⟨rfl, own7, P7, hrep7, st7⟩
            by_cases h0 : (s1.submit r).2 = 0
            · obtain ⟨hrow, hk9, hal, hfin⟩ := HTA.out w7 w7 own7 P7 h0 hrep7 st7
              have hfin2 := fun W8 => (HTA.out w7 W8 own7 P7 h0 hrep7 st7).2.2.2
              have e0 : w7.cell? ⟨q9, 0, none⟩ = some (.int .i64 r.id) := hk9.cell 0
              have e1 : w7.cell? ⟨q9, 1, none⟩ = some (.int .i64 r.deadline) := hk9.cell 1
              have e2 : w7.cell? ⟨q9, 2, none⟩ = some (.slice Cp np cc) := hk9.cell 2
              have e3 : w7.cell? ⟨q9, 3, none⟩ = some (.int .i64 r.most) := hk9.cell 3
              have e4 : w7.cell? ⟨q9, 4, none⟩ = some (.int .i64 r.seed) := hk9.cell 4
              have HFIN := Lib.hid hfin2
              have hz : ((s1.submit r).2 == 0) = true := by simp [h0]
              obtain ⟨i0, hi0, hz0, hz1, hz2⟩ := info_parts req_info
              clear h0 hrep7 st7 hk9 hfin hfin2 HTA HRE HSUB HAA
              generalize (s1.submit r).2 = er at *
              go_wp2_with (first | (at_builtin; go_must (refine wpList_append_any _ rfl _ _ 37 rfl 41 i0 _ 5 56 Tryz.underlying37 hi0 hz0 hz1 hz2 rfl (by omega) u8 _ _ rfl (hrow.alloc _) _ 1 1 _ rfl (reads_lit _ _ _ 5 1 rfl) (by intro u hu; simp at hu; rcases hu with rfl | rfl | rfl | rfl | rfl <;> rfl) (by unfold maxLen; omega) (by omega) ?_); intro v' w8 happ))
              go_meet
              obtain ⟨D', hm⟩ := HFIN.out w8 _ v' happ
              exact ⟨own7, P7, _, a6, _, _, D', hm⟩
            · have hz : ((s1.submit r).2 == 0) = false := by simpa using h0
              have hm := HRE.out w7 own7 P7 h0 hrep7 st7
              have HM7 := Lib.hid hm
              clear hm h0 hrep7 st7 HTA HRE HSUB HAA
              generalize (s1.submit r).2 = er at *
              go_wp2_with fail
              go_meet
              exact ⟨own7, P7, s1, a6, asked, vps, D, HM7.out⟩
      case rest =>
        obtain ⟨own2, P2, s2, a7, asked2, vps2, D2, hM⟩ := hcut
        have htk := tick_any wc own2 P2 s2 hM.K.rep hM.run.ok hM.run.now (by have := hM.rec_; omega) _ (Nat.le_refl _)
        rw [hM.esa] at htk
        have HTK := Lib.hid htk
        have HM := Lib.hid hM
        clear htk hM HM5
        go_wp2_with fail
        refine HTK.out.mono ?_
        rintro e w6 ⟨rfl, own6, P6, hrep6, st6⟩
        have HL6 := Lib.hid (HM.out.tick (by omega) hrep6 st6)
        clear hrep6 st6 HTK
        go_wp2_with fail
        go_roundw
        case rel => exact ⟨k + 1, own6, P6, s2.tick, a7, asked2, vps2, D2, by omega, by go_num, HL6.out.1, fun _ => HL6.out.2⟩
        case measure => simp [intOf]; omega
    · obtain rfl : k = cn := by omega
      have hL2 : Loop2 w0 wr w.heap.size A n c l w2.heap.size wB.heap.size esa (.slice A4 N4 c4) (.slice A5 N5 c5) (.slice A6 N6 c6) (.slice A7 N7 c7) (.slice A8 N8 c8) (.slice A9 N9 c9) (.slice A10 N10 c10) u8 own1 P1 s1 a4 asked vps D :=
        ⟨HL.out.K, HL.out.R, HL.out.run, HL.out.esa, HL.out.M, by have := HL.out.rec_; have := HL.out.now; omega, HL.out.dl, HOP.out (by omega)⟩
      have hlen : asked.length ≤ 12 := by rw [HL.out.run.many]; exact HL.out.run.ok.nreqs
      have HL2 := Lib.hid hL2
      clear hL2 HL HOP HASK HB3
      go_wp2_with fail
      go_loopg [] 62 (fun f wr => ∃ (own2 : Nat → Slot) (P2 : Ptrs) (s2 : Srv), Loop2 w0 wr w.heap.size A n c l w2.heap.size wB.heap.size esa (.slice A4 N4 c4) (.slice A5 N5 c5) (.slice A6 N6 c6) (.slice A7 N7 c7) (.slice A8 N8 c8) (.slice A9 N9 c9) (.slice A10 N10 c10) u8 own2 P2 s2 a4 asked vps D ∧ 61 ≤ s2.now + f)
      case atStart => exact ⟨own1, P1, s1, HL2.out, by omega⟩
      clear HL2
      obtain ⟨own2, P2, s2, hL2, hf⟩ := hrel
      have hwt := waiting_any wr own2 P2 s2 hL2.K.rep hL2.run.ok.distinct hL2.run.ok.nreqs
      rw [hL2.esa] at hwt
      have HWT := Lib.hid hwt
      have HL2 := Lib.hid hL2
      have HOPN := Lib.hid hL2.open_
      have HF := Lib.hid hf
      have hwl : s2.waiting.length ≤ 12 := by unfold Srv.waiting; rw [List.length_map]; exact Nat.le_trans s2.open_length hL2.run.ok.nreqs
      have HWZ : Hid (s2.waiting.length = 0 → s2.open_ = []) := Lib.hid fun h => by
        unfold Srv.waiting at h
        rw [List.length_map] at h
        exact List.eq_nil_of_length_eq_zero h
      clear hwt hL2 hf
      generalize s2.waiting.length = nw at *
      go_wp2_with fail
      refine HWT.out.mono ?_
      rintro e w5 ⟨v, rfl, hfr, hb5⟩
      obtain ⟨Av, cv, rfl, -, -⟩ := hfr.shape
      have HL5 := Lib.hid (HL2.out.fresh hb5)
      clear HWT hfr hb5 HL2
      by_cases hnw : nw = 0
      · subst hnw
        have hnil := HWZ.out rfl
        have hsy := sync_any w5 own2 P2 s2 HL5.out.K.rep s2.reqs.length
        rw [HL5.out.esa] at hsy
        have HSY := Lib.hid hsy
        obtain ⟨Ar, capr, hvr, -, -⟩ := HL5.out.R.row.shape
        obtain ⟨na, hna⟩ : ∃ na, na = asked.length := ⟨_, rfl⟩
        rw [← hna] at hvr hlen
        subst hvr
        have HNA := Lib.hid hna
        have HNIL := Lib.hid hnil
        clear hsy hna hnil HWZ HF HOPN
        go_wp2_with fail
        refine HSY.out.mono ?_
        rintro e w6 ⟨rfl, hrep6, st6⟩
        have HK6 := Lib.hid (HL5.out.K.step hrep6 st6)
        have HR6 := Lib.hid (HL5.out.R.step st6)
        have HRUN := Lib.hid (HL5.out.run.sync s2.log.length)
        have HES := Lib.hid HL5.out.esa
        have HM : Hid (({ s2 with synced := s2.log.length } : Srv).M = demoM) := Lib.hid HL5.out.M
        have HAN := Lib.hid (fun r hr => HRUN.out.answer HNIL.out rfl r hr)
        clear hrep6 st6 HSY HL5 HNIL
        generalize ({ s2 with synced := s2.log.length } : Srv) = s3 at *
        go_wp2_with fail
        go_loopw [77] (fun x wr => ∃ k3 : Nat, k3 ≤ na ∧ x = .int .i64 k3 ∧ Below w6.heap.size w6 wr) (fun x _ => na - (intOf x).toNat)
        case atStart => exact ⟨0, by omega, rfl, Below.refl _ _⟩
        obtain ⟨k3, hk3, rfl, hb⟩ := hrel
        have hwz := hb.size
        by_cases hlt3 : k3 < na
        · obtain ⟨g, cap, r, vp, hv, hri, hgl, hprm, d0, d1, d2, d3, d4⟩ := (HR6.out.fresh hb).at_ k3 (by rw [← HNA.out]; exact hlt3)
          injection hv with hv1 hv2 hv3
          subst hv1 hv3
          clear hv2
          obtain ⟨Cp, cc, rfl⟩ := hprm.len
          obtain ⟨np, hnp⟩ : ∃ np, np = r.prompt.length := ⟨_, rfl⟩
          rw [← hnp] at hprm d2
          obtain ⟨o1, o2, o3, o4, o5, o6⟩ := HRUN.out.askedOk k3 r hri
          have hans := fun W (h : Rep W own2 P2 s3) => answer_any W own2 P2 s3 h HRUN.out.ok r.id ⟨by omega, by omega⟩
          rw [HES.out] at hans
          have hal := HAL.out
          unfold askVal at hal
          have HALL : Hid (∀ (W : World) (h : MSl W (fun g => w0.heap.size ≤ g ∧ g < wB.heap.size) demoM (.slice A4 N4 c4) (.slice A5 N5 c5) (.slice A6 N6 c6) (.slice A7 N7 c7) (.slice A8 N8 c8) (.slice A9 N9 c9) (.slice A10 N10 c10)) (hp : Slc W D (.slice Cp np cc) r.prompt), Calls Tryz.prog 18 #[.agg #[.int .i64 1, .int .i64 8, .int .i64 4, .int .i64 8, .slice A4 N4 c4, .slice A5 N5 c5, .slice A6 N6 c6, .slice A7 N7 c7, .slice A8 N8 c8, .slice A9 N9 c9, .slice A10 N10 c10], .agg #[.int .i64 r.id, .int .i64 r.deadline, .slice Cp np cc, .int .i64 r.most, .int .i64 r.seed]] W fun e w' => ∃ (v : Value) (K : Nat), e = .returned (.tuple #[v, .int .i64 0]) ∧ IsAlone demoM r.seed r.prompt r.most K ∧ Own w' (fun g => W.heap.size ≤ g) 3 1 v K (ints (gen demoM r.seed r.prompt K)) ∧ Below W.heap.size W w') :=
            Lib.hid fun W h hp => hal W _ _ _ _ _ _ _ _ _ h r _ hp o1 o2 o3 (by rw [← HM.out]; exact o4)
          have han := HAN.out r (List.mem_of_getElem? hri)
          rw [HM.out] at han
          have HANS := Lib.hid hans
          have HMO := Lib.hid o1
          have HNP := Lib.hid hnp
          have HPRM := Lib.hid hprm
          have HAN2 := Lib.hid han
          have hnz : (wr.alloc (.cells #[.int .i64 r.id, .int .i64 r.deadline, .slice Cp np cc, .int .i64 r.most, .int .i64 r.seed] 41)).heap.size = wr.heap.size + 1 := by simp
          have k9 := Blk.new wr 41 #[.int .i64 r.id, .int .i64 r.deadline, .slice Cp np cc, .int .i64 r.most, .int .i64 r.seed]
          have K9 := Lib.hid k9
          have HKW := Lib.hid ((HK6.out.fresh hb).fresh ((Below.refl _ wr).alloc (Nat.le_refl _) (.cells #[.int .i64 r.id, .int .i64 r.deadline, .slice Cp np cc, .int .i64 r.most, .int .i64 r.seed] 41)))
          have HPW := Lib.hid (hprm.alloc (.cells #[.int .i64 r.id, .int .i64 r.deadline, .slice Cp np cc, .int .i64 r.most, .int .i64 r.seed] 41))
          have HBW := Lib.hid (hb.trans (((Below.refl _ wr).alloc (Nat.le_refl _) (.cells #[.int .i64 r.id, .int .i64 r.deadline, .slice Cp np cc, .int .i64 r.most, .int .i64 r.seed] 41)).mono hwz))
          clear hans hnp hprm han o1 o2 o3 o4 k9 hri hal HAN
          go_wp2_with fail
          generalize wr.alloc (.cells #[.int .i64 r.id, .int .i64 r.deadline, .slice Cp np cc, .int .i64 r.most, .int .i64 r.seed] 41) = w7 at *
          have hA := HANS.out w7 HKW.out.rep
          unfold AnsRes at hA
          rcases HAN2.out with hl | ⟨K, hK, hl⟩
          · rw [hl] at hA
            dsimp only [List.length_nil] at hA
            have HA := Lib.hid hA
            clear hA hl HAN2 HANS
            refine HA.out.mono ?_
            rintro e w8 ⟨v1, rfl, ho1, hb8⟩
            obtain ⟨B1, c1, rfl, -, -⟩ := ho1.shape
            have hz8 := hb8.size
            have k4w := (HKW.out.fresh hb8).k4
            have m0 : w8.cell? ⟨w2.heap.size, 0, none⟩ = some (.int .i64 1) := k4w.cell 0
            have m1 : w8.cell? ⟨w2.heap.size, 1, none⟩ = some (.int .i64 8) := k4w.cell 1
            have m2 : w8.cell? ⟨w2.heap.size, 2, none⟩ = some (.int .i64 4) := k4w.cell 2
            have m3 : w8.cell? ⟨w2.heap.size, 3, none⟩ = some (.int .i64 8) := k4w.cell 3
            have m4 : w8.cell? ⟨w2.heap.size, 4, none⟩ = some (.slice A4 N4 c4) := k4w.cell 4
            have m5 : w8.cell? ⟨w2.heap.size, 5, none⟩ = some (.slice A5 N5 c5) := k4w.cell 5
            have m6 : w8.cell? ⟨w2.heap.size, 6, none⟩ = some (.slice A6 N6 c6) := k4w.cell 6
            have m7 : w8.cell? ⟨w2.heap.size, 7, none⟩ = some (.slice A7 N7 c7) := k4w.cell 7
            have m8 : w8.cell? ⟨w2.heap.size, 8, none⟩ = some (.slice A8 N8 c8) := k4w.cell 8
            have m9 : w8.cell? ⟨w2.heap.size, 9, none⟩ = some (.slice A9 N9 c9) := k4w.cell 9
            have m10 : w8.cell? ⟨w2.heap.size, 10, none⟩ = some (.slice A10 N10 c10) := k4w.cell 10
            have k9 := K9.out.below hb8 (by omega)
            have e0 : w8.cell? ⟨wr.heap.size, 0, none⟩ = some (.int .i64 r.id) := k9.cell 0
            have e1 : w8.cell? ⟨wr.heap.size, 1, none⟩ = some (.int .i64 r.deadline) := k9.cell 1
            have e2 : w8.cell? ⟨wr.heap.size, 2, none⟩ = some (.slice Cp np cc) := k9.cell 2
            have e3 : w8.cell? ⟨wr.heap.size, 3, none⟩ = some (.int .i64 r.most) := k9.cell 3
            have e4 : w8.cell? ⟨wr.heap.size, 4, none⟩ = some (.int .i64 r.seed) := k9.cell 4
            have HAL8 := Lib.hid (HALL.out w8 (HKW.out.fresh hb8).ms (HPW.out.fresh hb8))
            have HB8 := Lib.hid (HBW.out.trans (hb8.mono (by omega)))
            have HO1 := Lib.hid ho1
            clear k4w k9 hb8 ho1 d0 d1 d2 d3 d4
            go_wp2_with fail
            refine HAL8.out.mono ?_
            rintro e w9 ⟨v2, K2, rfl, hia, ho2, hb9⟩
            obtain ⟨B2, c2', rfl, -, -⟩ := ho2.shape
            have HB9 := Lib.hid (HB8.out.trans (hb9.mono (by omega)))
            clear hia ho2 hb9 m0 m1 m2 m3 m4 m5 m6 m7 m8 m9 m10 e0 e1 e2 e3 e4
            go_wp2_with fail
            go_roundw
            case rel => exact ⟨k3 + 1, by omega, by go_num, HB9.out⟩
            case measure => simp [intOf]; omega
          · rw [hl] at hA
            dsimp only at hA
            rw [gen_length] at hA
            have HA := Lib.hid hA
            have HIA := Lib.hid hK
            clear hA hl HAN2 HANS hK
            refine HA.out.mono ?_
            rintro e w8 ⟨v1, rfl, ho1, hb8⟩
            obtain ⟨B1, c1, rfl, -, -⟩ := ho1.shape
            have hz8 := hb8.size
            have k4w := (HKW.out.fresh hb8).k4
            have m0 : w8.cell? ⟨w2.heap.size, 0, none⟩ = some (.int .i64 1) := k4w.cell 0
            have m1 : w8.cell? ⟨w2.heap.size, 1, none⟩ = some (.int .i64 8) := k4w.cell 1
            have m2 : w8.cell? ⟨w2.heap.size, 2, none⟩ = some (.int .i64 4) := k4w.cell 2
            have m3 : w8.cell? ⟨w2.heap.size, 3, none⟩ = some (.int .i64 8) := k4w.cell 3
            have m4 : w8.cell? ⟨w2.heap.size, 4, none⟩ = some (.slice A4 N4 c4) := k4w.cell 4
            have m5 : w8.cell? ⟨w2.heap.size, 5, none⟩ = some (.slice A5 N5 c5) := k4w.cell 5
            have m6 : w8.cell? ⟨w2.heap.size, 6, none⟩ = some (.slice A6 N6 c6) := k4w.cell 6
            have m7 : w8.cell? ⟨w2.heap.size, 7, none⟩ = some (.slice A7 N7 c7) := k4w.cell 7
            have m8 : w8.cell? ⟨w2.heap.size, 8, none⟩ = some (.slice A8 N8 c8) := k4w.cell 8
            have m9 : w8.cell? ⟨w2.heap.size, 9, none⟩ = some (.slice A9 N9 c9) := k4w.cell 9
            have m10 : w8.cell? ⟨w2.heap.size, 10, none⟩ = some (.slice A10 N10 c10) := k4w.cell 10
            have k9 := K9.out.below hb8 (by omega)
            have e0 : w8.cell? ⟨wr.heap.size, 0, none⟩ = some (.int .i64 r.id) := k9.cell 0
            have e1 : w8.cell? ⟨wr.heap.size, 1, none⟩ = some (.int .i64 r.deadline) := k9.cell 1
            have e2 : w8.cell? ⟨wr.heap.size, 2, none⟩ = some (.slice Cp np cc) := k9.cell 2
            have e3 : w8.cell? ⟨wr.heap.size, 3, none⟩ = some (.int .i64 r.most) := k9.cell 3
            have e4 : w8.cell? ⟨wr.heap.size, 4, none⟩ = some (.int .i64 r.seed) := k9.cell 4
            have HAL8 := Lib.hid (HALL.out w8 (HKW.out.fresh hb8).ms (HPW.out.fresh hb8))
            have HB8 := Lib.hid (HBW.out.trans (hb8.mono (by omega)))
            have HO1 := Lib.hid ho1
            clear k4w k9 hb8 ho1 d0 d1 d2 d3 d4
            go_wp2_with fail
            refine HAL8.out.mono ?_
            rintro e w9 ⟨v2, K2, rfl, hia, ho2, hb9⟩
            obtain ⟨B2, c2', rfl, -, -⟩ := ho2.shape
            have HB9 := Lib.hid (HB8.out.trans (hb9.mono (by omega)))
            have hkk : K = K2 := IsAlone.unique HIA.out hia
            subst hkk
            have ho1' := HO1.out.fresh hb9
            have heq := equal_any w9 _ _ B1 B2 K K c1 c2' _ _ ho1'.reads ho2.reads (by have := HIA.out.le HMO.out.1; have := HMO.out.2; omega)
            rw [decide_eq_true rfl] at heq
            have HEQ := Lib.hid heq
            clear hia ho2 hb9 m0 m1 m2 m3 m4 m5 m6 m7 m8 m9 m10 e0 e1 e2 e3 e4 ho1' heq
            go_wp2_with (go_at_call 19; refine HEQ.out.mono ?_; rintro e w' ⟨rfl, kd, rfl⟩)
            go_roundw
            case rel => exact ⟨k3 + 1, by omega, by go_num, belowN HB9.out _⟩
            case measure => simp [intOf]; omega
        · have HKZ := Lib.hid ((HK6.out.fresh hb).kp)
          clear hb HAN
          go_wp2_with fail
          refine (served_any wr).mono ?_
          rintro e w7 ⟨rfl, hb7⟩
          have HKY := Lib.hid (HKZ.out.fresh hb7)
          clear hb7
          go_wp2_with fail
          go_ret
          exact ⟨rfl, HW0.out _ HKY.out⟩
      · have htk := tick_any w5 own2 P2 s2 HL5.out.K.rep HL5.out.run.ok HL5.out.run.now (by have := HL5.out.rec_; have := HOPN.out hnw; omega) _ (Nat.le_refl _)
        rw [HL5.out.esa] at htk
        have HTK := Lib.hid htk
        clear htk
        go_wp2_with fail
        refine HTK.out.mono ?_
        rintro e w6 ⟨rfl, own6, P6, hrep6, st6⟩
        have HL6 := Lib.hid (HL5.out.tick (HOPN.out hnw) hrep6 st6)
        clear hrep6 st6 HTK
        go_wp2_with fail
        have hf2 := HF.out
        have hno := HOPN.out hnw
        go_roundg (gk - 1)
        case measure => omega
        case rel => exact ⟨own6, P6, s2.tick, HL6.out.1, by rw [HL6.out.2]; omega⟩
end Go.Proofs.YtedkfehdfmimoaaGreat

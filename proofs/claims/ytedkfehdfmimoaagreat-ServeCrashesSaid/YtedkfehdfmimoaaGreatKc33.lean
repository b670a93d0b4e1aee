/- Stream.Asked. The state of the laws between calls. -/
import Derived.Test.YtedkfehdfmimoaaGreatKc32
import Derived.Test.YtedkfehdfmimoaaGreatKc31
import Derived.Test.YtedkfehdfmimoaaGreatKc30
import Derived.Test.YtedkfehdfmimoaaGreatKc27
namespace Go.Proofs.YtedkfehdfmimoaaGreat
open Go.RowKit

set_option maxRecDepth 100000 in
set_option maxHeartbeats 4000000 in
theorem asked_any (w : World) (p : Nat) (A : Option Addr) (n c : Nat) (l : List Int) (a : Int) (h : Str w p A n c l a) (ha : a ≤ 900000) (M : Model) (v4 v5 v6 v7 v8 v9 v10 : Value) (hv : 1 ≤ M.vocab ∧ M.vocab ≤ 1000) (now : Int) (hn : 0 ≤ now ∧ now ≤ 10000) :
    Calls Tryz.prog 11 #[.pointer (some ⟨p, 0, none⟩), .agg #[.int .i64 M.kind, .int .i64 M.vocab, .int .i64 M.width, .int .i64 M.top, v4, v5, v6, v7, v8, v9, v10], .int .i64 now] w (AskPost w p A n c l a 60 fun r => r.id ≤ 9 ∧ 0 ≤ r.deadline ∧ r.deadline ≤ now + 30 ∧ r.prompt.length ≤ 100) := by
  have HREQ := Lib.hid (fun (W : World) (a1 : Int) (hs : Str W p A n c l a1) (ha1 : a1 ≤ 1000000) => request_any W p A n c l a1 hs ha1 M v4 v5 v6 v7 v8 v9 v10 hv)
  obtain ⟨hv1, hv2⟩ := hv
  obtain ⟨hn1, hn2⟩ := hn
  have hp := h.blk.lt
  have h0 := (h.alloc (.cells #[.int .i64 M.kind, .int .i64 M.vocab, .int .i64 M.width, .int .i64 M.top, v4, v5, v6, v7, v8, v9, v10] 27)).alloc (.cells #[.int .i64 0, .int .i64 0, .slice none 0 0, .int .i64 0, .int .i64 0] 41)
  have k0 := (Blk.new w 27 #[.int .i64 M.kind, .int .i64 M.vocab, .int .i64 M.width, .int .i64 M.top, v4, v5, v6, v7, v8, v9, v10]).alloc (.cells #[.int .i64 0, .int .i64 0, .slice none 0 0, .int .i64 0, .int .i64 0] 41)
  have l0 := Blk.new (w.alloc (.cells #[.int .i64 M.kind, .int .i64 M.vocab, .int .i64 M.width, .int .i64 M.top, v4, v5, v6, v7, v8, v9, v10] 27)) 41 #[.int .i64 0, .int .i64 0, .slice none 0 0, .int .i64 0, .int .i64 0]
  have kk0 : Keeps (· = p) w ((w.alloc (.cells #[.int .i64 M.kind, .int .i64 M.vocab, .int .i64 M.width, .int .i64 M.top, v4, v5, v6, v7, v8, v9, v10] 27)).alloc (.cells #[.int .i64 0, .int .i64 0, .slice none 0 0, .int .i64 0, .int .i64 0] 41)) := ((Keeps.refl _ _).alloc _).alloc _
  simp only [World.size_alloc] at l0
  have HS := Lib.hid h
  have H0 := Lib.hid h0
  have K0 := Lib.hid k0
  have L0 := Lib.hid l0
  have KK0 := Lib.hid kk0
  clear h h0 k0 l0 kk0
  go_enter Tryz.func11, Tryz.ntmps11
  go_wp2_with fail
  refine (range_any _ p A n c l a _ _ H0.out (by omega) (by omega) (by omega) (by omega)).mono ?_
  rintro e w1 ⟨id, a1, rfl, ⟨i1, i2⟩, g1, g1', hs1, k1⟩
  have HS1 := Lib.hid hs1
  have KK1 := Lib.hid (KK0.out.tr k1)
  have K1 := Lib.hid (k1.blk K0.out (by omega))
  have L1 := Lib.hid (k1.blk L0.out (by omega))
  clear hs1 k1
  go_wp2_with fail
  refine (pick_lit _ p A n c l a1 HS1.out (by omega) [0, 1, 3, 6, 9, 15, 30] 7 rfl (by omega) (by omega) _ rfl _ rfl).mono ?_
  rintro e w2 ⟨dd, a2, rfl, dm, g2, g2', hs2, k2⟩
  obtain ⟨d1, d2⟩ := inList dm (by decide)
  have d3 : dd ≤ 30 := by
    simp only [List.mem_cons, List.not_mem_nil, or_false] at dm
    omega
  have HS2 := Lib.hid hs2
  have KK2 := Lib.hid (KK1.out.tr k2)
  have K2 := Lib.hid (k2.blk K1.out (by omega))
  have L2 := Lib.hid (k2.blk L1.out (by omega))
  clear hs2 k2 d2 dm
  go_wp2_with fail
  refine (range_any _ p A n c l a2 _ _ HS2.out (by omega) (by omega) (by omega) (by omega)).mono ?_
  rintro e w3 ⟨mo, a3, rfl, ⟨m1, m2⟩, g3, g3', hs3, k3⟩
  have HS3 := Lib.hid hs3
  have KK3 := Lib.hid (KK2.out.tr k3)
  have K3 := Lib.hid (k3.blk K2.out (by omega))
  have L3 := Lib.hid (k3.blk L2.out (by omega))
  clear hs3 k3
  go_wp2_with fail
  refine (next_any _ p A n c l a3 _ HS3.out (by omega) (by omega)).mono ?_
  rintro e w4 ⟨sd, a4, rfl, ⟨s1, s2, -⟩, g4, g4', hs4, k4⟩
  have hx := (k4.blk L3.out (by omega)).lt
  have hR : RqS w (w4.alloc (.cells #[.int .i64 id, .int .i64 (now + dd), .slice none 0 0, .int .i64 mo, .int .i64 sd] 41)) p A n c l M.vocab w.heap.size (w.heap.size + 1) w4.heap.size a4 id (now + dd) (.slice none 0 0) mo sd [] :=
    ⟨⟨a, HS.out⟩, hs4.alloc _, (KK3.out.tr k4).alloc _, ((k4.blk K3.out (by omega)).alloc _).cell 1, (k4.blk L3.out (by omega)).alloc _, Blk.new _ _ _, Own.nil_ _ _ _ _, hp, Nat.le_refl _, by omega, by omega⟩
  have kq := (k4.blk K3.out (by omega)).alloc (.cells #[.int .i64 id, .int .i64 (now + dd), .slice none 0 0, .int .i64 mo, .int .i64 sd] 41)
  have HR := Lib.hid hR
  have HKQ := Lib.hid kq
  have h5 := hR.str
  clear hs4 k4 HS1 HS2 HS3 KK0 KK1 KK2 KK3 K0 K1 K2 K3 L0 L1 L2 L3 H0 hR kq
  go_wp2_with fail
  refine (flip_any _ p A n c l a4 _ HR.out.str (by omega) (by omega)).mono ?_
  rintro e w5 ⟨b, a5, rfl, g5, g5', hs5, k5⟩
  have HR5 := Lib.hid (HR.out.moved hs5 k5)
  have kq5 := k5.blk HKQ.out (by omega)
  have HKQ5 := Lib.hid kq5
  clear hs5 k5 h5 HR hx HKQ kq5
  cases b with
  | true =>
    obtain ⟨m0, m1', m2', m3, m4, m5, m6, m7, m8, m9, m10⟩ := mcells HKQ5.out
    have h5 := HR5.out.str
    go_wp2_with fail
    refine (HREQ.out w5 a5 HR5.out.str (by omega)).mono ?_
    rintro e w6 ⟨r, vp, a6, rfl, ⟨r1, r2, r3, r4⟩, hsl, g6, g6', hs6, k6⟩
    have HR6 := Lib.hid (HR5.out.moved hs6 k6)
    obtain ⟨C, cc, rfl⟩ := hsl.len
    obtain ⟨nn, hnn⟩ : ∃ nn, nn = r.prompt.length := ⟨_, rfl⟩
    unfold askVal
    rw [← hnn]
    have HNN := Lib.hid hnn
    have HSL := Lib.hid hsl
    have HK6 := Lib.hid k6
    have e0 : w6.cell? ⟨w.heap.size + 1, 0, none⟩ = some (.int .i64 0) := HR6.out.k4.cell 0
    have e1 : w6.cell? ⟨w.heap.size + 1, 1, none⟩ = some (.int .i64 0) := HR6.out.k4.cell 1
    have e2 : w6.cell? ⟨w.heap.size + 1, 2, none⟩ = some (.slice none 0 0) := HR6.out.k4.cell 2
    have e3 : w6.cell? ⟨w.heap.size + 1, 3, none⟩ = some (.int .i64 0) := HR6.out.k4.cell 3
    have e4 : w6.cell? ⟨w.heap.size + 1, 4, none⟩ = some (.int .i64 0) := HR6.out.k4.cell 4
    have f0 := HR6.out.k4.frozen 0
    have f1 := HR6.out.k4.frozen 1
    have f2 := HR6.out.k4.frozen 2
    have f3 := HR6.out.k4.frozen 3
    have f4 := HR6.out.k4.frozen 4
    have hz5 := HR5.out.k5.lt
    clear hsl k6 hnn h5 hs6 m0 m1' m2' m3 m4 m5 m6 m7 m8 m9 m10
    go_wp2_with fail
    have bf := blk5 w6 (w.heap.size + 1) 41 _ _ _ _ _ (.int .i64 r.id) (.int .i64 r.deadline) (.slice C nn cc) (.int .i64 r.most) (.int .i64 r.seed) HR6.out.k4
    have kf := keeps5 w6 (w.heap.size + 1) (.int .i64 r.id) (.int .i64 r.deadline) (.slice C nn cc) (.int .i64 r.most) (.int .i64 r.seed)
    (try simp only [Exit.inBlock, Exit.then])
    refine bodyPost_ret (v := .agg #[.int .i64 r.id, .int .i64 r.deadline, .slice C nn cc, .int .i64 r.most, .int .i64 r.seed]) ?_ ?_ ?_
    · exact results_cell_row (p := 6) (ty := 41) (fn := Tryz.f11) rfl _ _ (w.heap.size + 1) 41 #[.int .i64 r.id, .int .i64 r.deadline, .slice C nn cc, .int .i64 r.most, .int .i64 r.seed] (0, 0) _ rfl bf Tryz.underlying41 rfl rfl
    · rfl
    have kt := HR6.out.kp.trans kf (S := (· = p)) (fun i hi h => by omega)
    have h45 := HR6.out.l45
    refine ⟨r, .slice C nn cc, a6, ?_, ⟨r1, r2, by omega, r4⟩, ?_, by omega, by omega, HS.out.again kt (kf.blk HR6.out.str.blk (by omega)) HR6.out.str.at0, kt⟩
    · unfold askVal; rfl
    · have hslk := HSL.out.keeps kf (fun i hi => by omega)
      rw [← HNN.out] at hslk
      exact hslk.more (fun g _ hg => by omega)
  | false =>
    have h5 := HR5.out.str
    go_wp2_with fail
    refine (range_any _ p A n c l a5 _ _ h5 (by omega) (by omega) (by omega) (by omega)).mono ?_
    rintro e w6 ⟨cnt, a6, rfl, ⟨t1, t2⟩, g6, g6', hs6, k6⟩
    have HR6 := Lib.hid (HR5.out.moved hs6 k6)
    obtain ⟨i0, hi0, hz0, hz1, hz2⟩ := info_parts int_info
    clear hs6 k6 h5 HR5 HKQ5
    go_wp2_with fail
    go_loopw [28] (fun x wr => ∃ (k : Nat) (a7 : Int) (vp : Value) (pr : List Int), (k : Int) ≤ cnt ∧ x = .int .i64 k ∧ pr.length = k ∧ RqS w wr p A n c l M.vocab w.heap.size (w.heap.size + 1) w4.heap.size a7 id (now + dd) vp mo sd pr ∧ a ≤ a7 ∧ a7 ≤ a + 10 + k) (fun x _ => cnt.toNat - (intOf x).toNat)
    case atStart => exact ⟨0, a6, .slice none 0 0, [], by omega, rfl, rfl, HR6.out, by omega, by omega⟩
    obtain ⟨k, a7, vp, pr, hk, rfl, hpr, hR, g7, g7'⟩ := hrel
    obtain ⟨B, cb, rfl, hcb1, hcb2⟩ := hR.own.shape
    rw [hpr] at hR hcb1
    have hpr32 : k ≤ 6 := by omega
    by_cases hlt : (k : Int) < cnt
    · have e2 : wr.cell? ⟨w4.heap.size, 2, none⟩ = some (.slice B k cb) := hR.k5.cell 2
      have f2 := hR.k5.frozen 2
      have e1 := hR.k3
      have c2a : (wr.alloc (.cells #[.int .i64 1, .int .i64 1, .int .i64 1, .int .i64 1, .int .i64 2] 3)).cell? ⟨w4.heap.size, 2, none⟩ = some (.slice B k cb) := (hR.alloc _).k5.cell 2
      have c2b : (wr.alloc (.cells #[.int .i64 1, .int .i64 1, .int .i64 1, .int .i64 1, .int .i64 2] 3)).cell? ⟨w.heap.size, 1, none⟩ = some (.int .i64 M.vocab) := (hR.alloc _).k3
      have HR7 := Lib.hid hR
      have HPR := Lib.hid hpr
      have hm0 : ¬ M.vocab = 0 := by omega
      clear hR hpr HR6 hcb1 hcb2
      go_wp2_with fail
      go_region_law ((first
        | (refine step_append_any _ (by rfl) _ _ 22 (by rfl) 3 i0 _ 1 8 Tryz.underlying22 hi0 hz0 hz1 hz2 rfl (by omega) (.slice B k cb) k (ints pr) (by rfl) (hown.alloc _) _ 1 1 _ (by rfl) (reads_new _ _ [((k : Int) + y).tmod (M.vocab : Int)] 1 rfl) (ints_one _) (by unfold maxLen; omega) (by omega) ?_; intro v' w8 happ; obtain ⟨A8, c8, rfl, -, -⟩ := happ.1.shape; have k8 := (HR8.out.kept _ happ); have d2 := k8.cell 2; have d2f := k8.frozen 2)
        | (go_simp; go_at_call 26; refine (pick_lit wr.drew p A n c l a7 HR7.out.str.drew (by omega) [1, 1, 1, 1, 2] 5 rfl (by omega) (by omega) _ rfl _ rfl).mono ?_; rintro e w7 ⟨y, a8, rfl, my, g8, g8', hs8, k8⟩; obtain ⟨y1, y2⟩ := inList my (by decide); have hw : IntKind.i64.wrap ((k : Int) + y) = (k : Int) + y := IntWalk.i64_in _ ⟨by omega, by omega⟩; have HR8 := Lib.hid (HR7.out.drew.moved hs8 k8); have hown := HR8.out.own; rw [HPR.out] at hown; have c7 : w7.cell? ⟨w4.heap.size, 2, none⟩ = some (.slice B k cb) := HR8.out.k5.cell 2; have c7v : w7.cell? ⟨w.heap.size, 1, none⟩ = some (.int .i64 M.vocab) := HR8.out.k3; have c7a : (w7.alloc (.cells #[.int .i64 (((k : Int) + y).tmod (M.vocab : Int))] 3)).cell? ⟨w4.heap.size, 2, none⟩ = some (.slice B k cb) := (HR8.out.alloc _).k5.cell 2; try dsimp only)))
      all_goals (
        have HAP := Lib.hid happ
        clear happ k8 d2 d2f hown c7 c7a c7v hs8 c2a c2b hw
        go_wp2_with fail
        go_roundw
        case rel => exact ⟨k + 1, a8, _, pr ++ [((k : Int) + y).tmod (M.vocab : Int)], by omega, by go_num, by rw [List.length_append, HPR.out]; rfl, HR8.out.push HPR.out.symm _ HAP.out, by omega, by omega⟩
        case measure => simp [intOf]; omega)
    · have d0 : wr.cell? ⟨w4.heap.size, 0, none⟩ = some (.int .i64 id) := hR.k5.cell 0
      have d1' : wr.cell? ⟨w4.heap.size, 1, none⟩ = some (.int .i64 (now + dd)) := hR.k5.cell 1
      have d2 : wr.cell? ⟨w4.heap.size, 2, none⟩ = some (.slice B k cb) := hR.k5.cell 2
      have d3' : wr.cell? ⟨w4.heap.size, 3, none⟩ = some (.int .i64 mo) := hR.k5.cell 3
      have d4 : wr.cell? ⟨w4.heap.size, 4, none⟩ = some (.int .i64 sd) := hR.k5.cell 4
      have e0 : wr.cell? ⟨w.heap.size + 1, 0, none⟩ = some (.int .i64 0) := hR.k4.cell 0
      have e1 : wr.cell? ⟨w.heap.size + 1, 1, none⟩ = some (.int .i64 0) := hR.k4.cell 1
      have e2 : wr.cell? ⟨w.heap.size + 1, 2, none⟩ = some (.slice none 0 0) := hR.k4.cell 2
      have e3 : wr.cell? ⟨w.heap.size + 1, 3, none⟩ = some (.int .i64 0) := hR.k4.cell 3
      have e4 : wr.cell? ⟨w.heap.size + 1, 4, none⟩ = some (.int .i64 0) := hR.k4.cell 4
      have f0 := hR.k4.frozen 0
      have f1 := hR.k4.frozen 1
      have f2 := hR.k4.frozen 2
      have f3 := hR.k4.frozen 3
      have f4 := hR.k4.frozen 4
      have HR7 := Lib.hid hR
      have HPR := Lib.hid hpr
      clear hR hpr HR6 hcb1 hcb2 hi0 hz0 hz1 hz2 i0
      go_wp2_with fail
      have bf := blk5 wr (w.heap.size + 1) 41 _ _ _ _ _ (.int .i64 id) (.int .i64 (now + dd)) (.slice B k cb) (.int .i64 mo) (.int .i64 sd) HR7.out.k4
      have kf := keeps5 wr (w.heap.size + 1) (.int .i64 id) (.int .i64 (now + dd)) (.slice B k cb) (.int .i64 mo) (.int .i64 sd)
      (try simp only [Exit.inBlock, Exit.then])
      refine bodyPost_ret (v := .agg #[.int .i64 id, .int .i64 (now + dd), .slice B k cb, .int .i64 mo, .int .i64 sd]) ?_ ?_ ?_
      · exact results_cell_row (p := 6) (ty := 41) (fn := Tryz.f11) rfl _ _ (w.heap.size + 1) 41 #[.int .i64 id, .int .i64 (now + dd), .slice B k cb, .int .i64 mo, .int .i64 sd] (0, 0) _ rfl bf Tryz.underlying41 rfl rfl
      · rfl
      have kt := HR7.out.kp.trans kf (S := (· = p)) (fun i hi h => by omega)
      have h45 := HR7.out.l45
      have hl := HR7.out.own.slc
      refine ⟨⟨id, now + dd, pr, mo, sd⟩, .slice B k cb, a7, rfl, ⟨by show id ≤ 9; omega, by show 0 ≤ now + dd; omega, by show now + dd ≤ now + 30; omega, by show pr.length ≤ 100; rw [HPR.out]; omega⟩, (hl.keeps kf (fun i hi => by omega)).more (fun g _ hg => by omega), by omega, by omega, HS.out.again kt (kf.blk HR7.out.str.blk (by omega)) HR7.out.str.at0, kt⟩
end Go.Proofs.YtedkfehdfmimoaaGreat

namespace Go.Proofs.YtedkfehdfmimoaaGreat
open Go.RowKit

theorem req_info : (Tryz.prog.info? 41).map (fun i => (i.zero, i.size, i.bytes)) = some (some (.agg #[.int .i64 0, .int .i64 0, .slice none 0 0, .int .i64 0, .int .i64 0]), 5, 56) := by kernel_rfl
def mc (v4 v5 v6 v7 v8 v9 v10 : Value) : Array Value := #[.int .i64 1, .int .i64 8, .int .i64 4, .int .i64 8, v4, v5, v6, v7, v8, v9, v10]
structure LawK (W0 W : World) (p : Nat) (A : Option Addr) (n c : Nat) (l : List Int) (q4 B : Nat) (v4 v5 v6 v7 v8 v9 v10 : Value) (own : Nat → Slot) (P : Ptrs) (s : Srv) (a' : Int) : Prop where
  rep : Rep W own P s
  s0 : ∃ a0, Str W0 p A n c l a0
  kp : Keeps (· = p) W0 W
  str : Str W p A n c l a'
  k4 : Blk W q4 27 (mc v4 v5 v6 v7 v8 v9 v10)
  ms : MSl W (fun g => W0.heap.size ≤ g ∧ g < B) demoM v4 v5 v6 v7 v8 v9 v10
  low : ∀ g, g < B → own g = .other
  pB : p < W0.heap.size
  wB : W0.heap.size ≤ B
  q1 : W0.heap.size ≤ q4
  q2 : q4 < B
  sz : B ≤ W.heap.size
section
variable {W0 W W' : World} {p : Nat} {A : Option Addr} {n c : Nat} {l : List Int} {q4 B : Nat} {v4 v5 v6 v7 v8 v9 v10 : Value} {own own' : Nat → Slot} {P P' : Ptrs} {s s' : Srv} {a' a2 : Int}
theorem LawK.keep {S : Nat → Prop} (h : LawK W0 W p A n c l q4 B v4 v5 v6 v7 v8 v9 v10 own P s a') (hk : Keeps S W W') (hS : ∀ g, g < B → S g → g = p) (rep' : Rep W' own' P' s') (low' : ∀ g, g < B → own' g = .other) (hb : Blk W' p 25 #[.slice A n c, .int .i64 a2]) (h0 : 0 ≤ a2) :
    LawK W0 W' p A n c l q4 B v4 v5 v6 v7 v8 v9 v10 own' P' s' a2 := by
  have h1 := h.pB
  have h2 := h.wB
  have h3 := h.q1
  have h4 := h.q2
  have kp : Keeps (· = p) W0 W' := h.kp.trans hk (fun i hi e => hS i (by omega) e)
  obtain ⟨a0, s0⟩ := h.s0
  exact ⟨rep', h.s0, kp, s0.again kp hb h0, hk.blk h.k4 (fun e => by have := hS _ h4 e; omega), h.ms.keeps hk (fun i hi e => by have := hS i hi.2 e; omega), low', h1, h2, h3, h4, Nat.le_trans h.sz hk.size⟩
theorem LawK.stream (h : LawK W0 W p A n c l q4 B v4 v5 v6 v7 v8 v9 v10 own P s a') (hs : Str W' p A n c l a2) (hk : Keeps (· = p) W W') : LawK W0 W' p A n c l q4 B v4 v5 v6 v7 v8 v9 v10 own P s a2 :=
  h.keep hk (fun g _ e => e) (h.rep.stay hk (fun g e => by subst e; exact h.low _ (Nat.lt_of_lt_of_le h.pB h.wB))) h.low hs.blk hs.at0
theorem LawK.fresh (h : LawK W0 W p A n c l q4 B v4 v5 v6 v7 v8 v9 v10 own P s a') (hb : Below W.heap.size W W') : LawK W0 W' p A n c l q4 B v4 v5 v6 v7 v8 v9 v10 own P s a' :=
  h.stream (h.str.fresh hb) (Keeps.of_below hb _)
theorem LawK.step {m : Nat} (h : LawK W0 W p A n c l q4 B v4 v5 v6 v7 v8 v9 v10 own P s a') (rep' : Rep W' own' P' s') (st : Step W own P W' own' P' m) : LawK W0 W' p A n c l q4 B v4 v5 v6 v7 v8 v9 v10 own' P' s' a' :=
  h.keep st.keeps (fun g hg e => absurd (h.low g hg) e) rep' (fun g hg => by
    rw [st.old g (Nat.lt_of_lt_of_le hg h.sz)]; exact h.low g hg) (st.keeps.blk h.str.blk (fun e => e (h.low _ (Nat.lt_of_lt_of_le h.pB h.wB)))) h.str.at0
end

/-! ### the calls that were accepted, in a row -/
def askCells : List Ask → List Value → List Value
  | r :: rs, v :: vs => .int .i64 r.id :: .int .i64 r.deadline :: v :: .int .i64 r.most :: .int .i64 r.seed :: askCells rs vs
  | _, _ => []
theorem askCells_snoc (r : Ask) (v : Value) : ∀ (rs : List Ask) (vs : List Value), vs.length = rs.length → askCells (rs ++ [r]) (vs ++ [v]) = askCells rs vs ++ [.int .i64 r.id, .int .i64 r.deadline, v, .int .i64 r.most, .int .i64 r.seed]
  | [], [], _ => rfl
  | _ :: rs, _ :: vs, h => by
    simp only [List.cons_append, askCells]
    rw [askCells_snoc r v rs vs (by simpa using h)]
  | [], _ :: _, h => by simp at h
  | _ :: _, [], h => by simp at h
theorem askCells_get : ∀ (rs : List Ask) (vs : List Value) (i : Nat) (r : Ask) (v : Value), rs[i]? = some r → vs[i]? = some v →
    (askCells rs vs)[i * 5]? = some (.int .i64 r.id) ∧ (askCells rs vs)[i * 5 + 1]? = some (.int .i64 r.deadline) ∧ (askCells rs vs)[i * 5 + 2]? = some v ∧ (askCells rs vs)[i * 5 + 3]? = some (.int .i64 r.most) ∧ (askCells rs vs)[i * 5 + 4]? = some (.int .i64 r.seed)
  | r0 :: rs, v0 :: vs, 0, r, v, h1, h2 => by
    simp only [List.getElem?_cons_zero, Option.some.injEq] at h1 h2
    subst h1 h2
    exact ⟨rfl, rfl, rfl, rfl, rfl⟩
  | _ :: rs, _ :: vs, i + 1, r, v, h1, h2 => by
    simp only [List.getElem?_cons_succ] at h1 h2
    have := askCells_get rs vs i r v h1 h2
    rw [show (i + 1) * 5 = i * 5 + 5 by omega]
    exact this
  | [], _, _, _, _, h1, _ => by simp at h1
  | _ :: _, [], _, _, _, _, h2 => by simp at h2
structure RowS (W : World) (B : Nat) (own : Nat → Slot) (asked : List Ask) (vrow : Value) (vps : List Value) (D : Nat → Prop) : Prop where
  row : Own W (fun g => own g = .other ∧ B ≤ g) 41 5 vrow asked.length (askCells asked vps)
  prm : Rows W D vps (asked.map (·.prompt))
  dis : ∀ g, D g → g < W.heap.size ∧ B ≤ g ∧ own g = .other ∧ vrow.ownBlock ≠ some g
section
variable {W W' : World} {B : Nat} {own own' : Nat → Slot} {asked : List Ask} {vrow : Value} {vps : List Value} {D : Nat → Prop}
theorem RowS.keep {S : Nat → Prop} (h : RowS W B own asked vrow vps D) (hk : Keeps S W W') (hS : ∀ g, own g = .other → B ≤ g → ¬ S g) (ho : ∀ g, g < W.heap.size → own' g = own g) : RowS W' B own' asked vrow vps D := by
  refine ⟨?_, h.prm.keeps hk (fun g hg => hS g (h.dis g hg).2.2.1 (h.dis g hg).2.1), fun g hg => ?_⟩
  · have h1 := h.row.keeps hk (fun g hg => hS g hg.1 hg.2)
    exact ⟨h1.1, fun g hg => by
      have h2 := h1.2 g hg
      exact ⟨by rw [ho g (h.row.lt hg)]; exact h2.1, h2.2⟩⟩
  · obtain ⟨d1, d2, d3, d4⟩ := h.dis g hg
    exact ⟨Nat.lt_of_lt_of_le d1 hk.size, d2, by rw [ho g d1]; exact d3, d4⟩
theorem RowS.fresh (h : RowS W B own asked vrow vps D) (hb : Below W.heap.size W W') : RowS W' B own asked vrow vps D := h.keep (S := fun _ => False) (Keeps.of_below hb _) (fun _ _ _ => id) (fun _ _ => rfl)
theorem RowS.stream {p : Nat} (h : RowS W B own asked vrow vps D) (hk : Keeps (· = p) W W') (hp : p < B) : RowS W' B own asked vrow vps D := h.keep hk (fun g _ hg e => by omega) (fun _ _ => rfl)
theorem RowS.step {P P' : Ptrs} {m : Nat} (h : RowS W B own asked vrow vps D) (st : Step W own P W' own' P' m) : RowS W' B own' asked vrow vps D := h.keep st.keeps (fun g e _ e' => e' e) st.old
theorem RowS.push (h : RowS W B own asked vrow vps D) {r : Ask} {vp v' : Value} {E : Nat → Prop} (hbey : ∀ g, W.heap.size ≤ g → own g = .other) (hB : B ≤ W.heap.size) (hp : Slc W E vp r.prompt) (hE : ∀ g, E g → g < W.heap.size ∧ B ≤ g ∧ own g = .other ∧ vrow.ownBlock ≠ some g) (o : Obj)
    (happ : Appended (W.alloc o) W' (fun g => own g = .other ∧ B ≤ g) 41 5 vrow v' (asked.length + 1) (askCells asked vps ++ [.int .i64 r.id, .int .i64 r.deadline, vp, .int .i64 r.most, .int .i64 r.seed])) :
    RowS W' B own (asked ++ [r]) v' (vps ++ [vp]) (fun g => D g ∨ E g) ∧ Below B W W' := by
  have hge : ∀ g, vrow.ownBlock = some g → B ≤ g := fun g e => (h.row.2 g e).2
  have hK : Keeps (fun g => vrow.ownBlock = some g) W W' := ((Keeps.refl _ W).alloc o).tr ((Keeps.refl _ _).grown happ.2.1 (fun k e _ => e))
  have hB3 : Below B W W' := ⟨hK.os, hK.tape, hK.output, hK.size, fun g hg => hK.block g (by omega) (fun e => by have := hge g e; omega)⟩
  refine ⟨⟨?_, ?_, fun g hg => ?_⟩, hB3⟩
  · rw [askCells_snoc _ _ _ _ (by have := h.prm.1; simpa using this), List.length_append]
    refine happ.1.more fun g _ e => ?_
    rcases e with e | e
    · exact e
    · subst e
      exact ⟨hbey _ (by simp), by simp; omega⟩
  · rw [List.map_append]
    refine Rows.snoc ((h.prm.keeps hK (fun g hg e => (h.dis g hg).2.2.2 e)).more fun g _ hg => Or.inl hg) ((hp.keeps hK (fun g hg e => (hE g hg).2.2.2 e)).more fun g _ hg => Or.inr hg)
  · have hd : g < W.heap.size ∧ B ≤ g ∧ own g = .other ∧ vrow.ownBlock ≠ some g := by
      rcases hg with hg | hg
      · exact h.dis g hg
      · exact hE g hg
    obtain ⟨d1, d2, d3, d4⟩ := hd
    refine ⟨Nat.lt_of_lt_of_le d1 hK.size, d2, d3, ?_⟩
    rcases happ.2.2 with e | e
    · rw [e]; exact d4
    · rw [e]
      intro e2
      injection e2 with e2
      simp at e2
      omega
end
end Go.Proofs.YtedkfehdfmimoaaGreat

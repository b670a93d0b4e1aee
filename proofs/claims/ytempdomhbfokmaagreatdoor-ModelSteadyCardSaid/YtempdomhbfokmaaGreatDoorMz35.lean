/- stands(): places of the elements of a tensor without dimensions. stands(): pointwise. stands(): values of the nodes. stands(): the values of all nodes. stands(): Eval. -/
import Derived.Test.YtempdomhbfokmaaGreatDoorMz34
namespace Go.Proofs.YtempdomhbfokmaaGreatDoor
open Go.RowKit

theorem make_ints : ∃ o, ∀ W, (Instr.makeSlice 22 (.int .i64 0) (.int .i64 0)).run Tryz.prog W = .ok (.slice (some ⟨W.heap.size, 0, none⟩) 0 0) (W.alloc o) := by
  obtain ⟨i, hi, h0, h1, h2⟩ := info_parts int_info
  exact ⟨_, fun W => run_make (P := Tryz.prog) W 22 3 i _ Tryz.underlying22 hi h0 .i64 .i64 0 0 (by omega) (by omega) (by rw [h2]; omega) (by omega)⟩
set_option maxRecDepth 100000 in
theorem strides_nil (w : World) : Calls Tryz.prog 203 #[.slice none 0 0] w fun e w' => ∃ g, e = .returned (.slice (some ⟨g, 0, none⟩) 0 0) ∧ Below w.heap.size w w' := by
  obtain ⟨o, hmk⟩ := make_ints
  go_enter Tryz.func203, Tryz.ntmps203
  go_wp2_with fail
  clear hmk
  go_loop [5, 4] (fun i n => i = .int .i64 (-1) ∧ n = .int .i64 1) (fun _ _ => 0)
  case atStart => exact ⟨rfl, rfl⟩
  obtain ⟨rfl, rfl⟩ := hrel
  go_wp2_with fail
  go_ret
  exact ⟨⟨_, rfl⟩, by go_grown⟩
set_option maxRecDepth 100000 in
theorem along_nil (w : World) : Calls Tryz.prog 204 #[.slice none 0 0, .slice none 0 0] w fun e w' => ∃ g, e = .returned (.slice (some ⟨g, 0, none⟩) 0 0) ∧ Below w.heap.size w w' := by
  obtain ⟨o, hmk⟩ := make_ints
  go_enter Tryz.func204, Tryz.ntmps204
  go_wp2_with (go_at_call 203; refine (strides_nil _).mono ?_; rintro e w1 ⟨g, rfl, hb1⟩)
  clear hmk
  go_loop [17] (fun i => i = .int .i64 0) (fun _ => 0)
  case atStart => rfl
  subst hrel
  go_wp2_with fail
  go_ret
  exact ⟨⟨_, rfl⟩, hb1.alloc hb1.size _⟩
set_option maxRecDepth 100000 in
theorem dot_nil (w : World) (A B : Option Addr) (c n m : Nat) : Calls Tryz.prog 207 #[.slice A 0 c, .slice B n m] w fun e w' => e = .returned (.int .i64 0) ∧ w' = w := by
  go_enter Tryz.func207, Tryz.ntmps207
  go_wp2_with fail
  go_loop [5, 9] (fun v i => v = .int .i64 0 ∧ i = .int .i64 0) (fun _ _ => 0)
  case atStart => exact ⟨rfl, rfl⟩
  obtain ⟨rfl, rfl⟩ := hrel
  go_wp2_with fail
  go_ret
  exact ⟨rfl, rfl⟩
/-- the two tensors: no dimensions, the number 3 -/
structure TAt (w : World) (ga gd : Nat) (c : Nat) : Prop where
  ka : ∀ j u, ([.slice none 0 0, .slice (some ⟨gd, 0, none⟩) 1 c, .slice none 0 0, .slice (some ⟨gd, 0, none⟩) 1 c] : List Value)[j]? = some u → w.cell? ⟨ga, j, none⟩ = some u
  kd : w.cell? ⟨gd, 0, none⟩ = some (.int .i64 3)
  la : ga < w.heap.size
  ld : gd < w.heap.size
theorem TAt.keeps {w w' : World} {ga gd c : Nat} {S : Nat → Prop} (h : TAt w ga gd c) (hk : Keeps S w w') (hs : ¬ S ga ∧ ¬ S gd) : TAt w' ga gd c :=
  ⟨fun j u hu => (hk.cell (p := ⟨ga, j, none⟩) h.la hs.1).trans (h.ka j u hu), (hk.cell (p := ⟨gd, 0, none⟩) h.ld hs.2).trans h.kd, Nat.lt_of_lt_of_le h.la hk.size, Nat.lt_of_lt_of_le h.ld hk.size⟩
theorem TAt.fresh {w w' : World} {ga gd c : Nat} (h : TAt w ga gd c) (hb : Below w.heap.size w w') : TAt w' ga gd c := h.keeps (Keeps.of_below hb (fun _ => False)) ⟨id, id⟩
theorem info_ints' : (Tryz.prog.info? 22).map (fun i => (i.zero, i.size, i.bytes)) = some (some (.slice none 0 0), 1, 24) := by kernel_rfl
set_option maxRecDepth 100000 in
set_option maxHeartbeats 2000000 in
/-- the closure of pointwise -/
theorem point1_std (w : World) (p1 p2 p3 p4 ga gd c ca gt cs g0 d2 : Nat) (S : Option Addr) (ct : TAt w ga gd c) (h1 : Blk w p1 60 #[.slice (some ⟨ga, 0, none⟩) 2 ca]) (h2 : Blk w p2 72 #[.slice (some ⟨gt, 0, none⟩) 2 cs])
    (hs : Own w (· = gt) 22 1 (.slice (some ⟨gt, 0, none⟩) 2 cs) 2 [.slice (some ⟨g0, 0, none⟩) 0 0, .slice S 0 0])
    (h3 : Blk w p3 54 #[.int .i64 4, .slice (some ⟨d2, 0, none⟩) 2 2, .string ⟨#[]⟩, .slice none 0 0, .string ⟨#[]⟩, .slice none 0 0, .int .i64 0, .int .i64 0, .int .i64 0, .int .i64 0, .slice none 0 0, .slice none 0 0]) (h4 : Blk w p4 22 #[.slice none 0 0]) (at_ : Option Addr) :
    Calls Tryz.prog 210 #[.slice at_ 0 0, .pointer (some ⟨p1, 0, none⟩), .pointer (some ⟨p2, 0, none⟩), .pointer (some ⟨p3, 0, none⟩), .pointer (some ⟨p4, 0, none⟩)] w fun e w' => ∃ g cc, e = .returned (.tuple #[]) ∧ Blk w' p4 22 #[.slice (some ⟨g, 0, none⟩) 1 cc] ∧
      Own w' (· = g) 3 1 (.slice (some ⟨g, 0, none⟩) 1 cc) 1 (ints [6]) ∧ w.heap.size ≤ g ∧ Keeps (· = p4) w w' := by
  have CT := Lib.hid ct
  have H1 := Lib.hid h1
  have H2 := Lib.hid h2
  have H3 := Lib.hid h3
  have H4 := Lib.hid h4
  have HS := Lib.hid hs
  clear ct h1 h2 h3 h4 hs
  go_enter Tryz.func210, Tryz.ntmps210
  go_upto_region 1 with (fail)
  have kv := Blk.new w 255 #[.int .i64 0, .int .i64 0, .int .i64 0]
  have hb0 : Below w.heap.size w (w.alloc (.cells #[.int .i64 0, .int .i64 0, .int .i64 0] 255)) := (Below.refl _ _).alloc (Nat.le_refl _) _
  generalize (w.alloc (.cells #[.int .i64 0, .int .i64 0, .int .i64 0] 255)) = W at *
  have HB0 := Lib.hid hb0
  have KV := Lib.hid kv
  have p0 := (H1.out.below hb0 H1.out.lt).cell 0
  have zw := hb0.size
  have l1 := H1.out.lt
  have l2 := H2.out.lt
  have l3 := H3.out.lt
  have l4 := H4.out.lt
  have lt_ := HS.out.lt (g := gt) rfl
  have la := CT.out.la
  have ld := CT.out.ld
  clear kv hb0
  go_wp2_with fail
  clear p0
  go_loopw [11] (fun i wr => ∃ k : Nat, k ≤ 2 ∧ i = .int .i64 k ∧ Blk wr w.heap.size 255 #[.int .i64 (if 0 < k then 3 else 0), .int .i64 (if 1 < k then 3 else 0), .int .i64 0] ∧ Keeps (fun g => g = w.heap.size) W wr) (fun i _ => 2 - (intOf i).toNat)
  case atStart => exact ⟨0, by omega, rfl, KV.out, Keeps.refl _ _⟩
  obtain ⟨k, hk, rfl, hv, hkr⟩ := hrel
  have hkw : Keeps (fun _ => False) w wr := ((Keeps.of_below HB0.out (fun _ => False)).trans hkr (fun i hi h => by omega))
  have ctr := CT.out.keeps hkw ⟨id, id⟩
  have h2r := hkw.blk H2.out id
  have hsr := HS.out.keeps hkw (fun _ _ => id)
  by_cases hlt : k < 2
  · have q0 := h2r.cell 0
    have s0 := hsr.get 0 (by omega)
    have s1 := hsr.get 1 (by omega)
    have a0 := ctr.ka 0 _ rfl
    have a1 := ctr.ka 1 _ rfl
    have a2 := ctr.ka 2 _ rfl
    have a3 := ctr.ka 3 _ rfl
    have dd := ctr.kd
    have v0 := hv.cell 0
    have v1 := hv.cell 1
    have f0 := hv.frozen 0
    have f1 := hv.frozen 1
    have zr := hv.lt
    have zg := ctr.la
    have zd := ctr.ld
    have z2 := h2r.lt
    have zt := hsr.lt (g := gt) rfl
    simp at q0 s0 s1 v0 v1
    have HV := Lib.hid hv
    have HKR := Lib.hid hkr
    clear hkr hv ctr h2r hsr hkw
    rcases (show k = 0 ∨ k = 1 by omega) with rfl | rfl
    · go_upto_region 4 with (fail)
      refine wp_region_st 12 (by kernel_rfl) (by kernel_rfl) ?_; simp only [List.take_succ_cons, List.take_zero, List.drop_succ_cons, List.drop_zero]
      iterate 8 (refine St.want (by kernel_rfl) (fun K hK => ?_); go_simp; refine hK _ ?_; clear hK K)
      refine St.want (by kernel_rfl) (fun K hK => ?_)
      go_simp
      refine ⟨_, dot_nil _ _ _ _ _ _, hK _ ?_⟩
      clear hK K
      iterate 3 (refine St.want (by kernel_rfl) (fun K hK => ?_); go_simp; refine hK _ ?_; clear hK K)
      refine St.nil ?_
      go_wp2_with fail
      go_roundw
      case rel => exact ⟨1, by omega, rfl, ((HV.out.set_ 0 (.int .i64 3)).alloc _).drew, ((Keeps.setCell (p := ⟨w.heap.size, 0, none⟩) HKR.out (fun _ => rfl) _).alloc _).drew⟩
      case measure => simp [intOf]
    · go_upto_region 4 with (fail)
      refine wp_region_st 12 (by kernel_rfl) (by kernel_rfl) ?_; simp only [List.take_succ_cons, List.take_zero, List.drop_succ_cons, List.drop_zero]
      iterate 8 (refine St.want (by kernel_rfl) (fun K hK => ?_); go_simp; refine hK _ ?_; clear hK K)
      refine St.want (by kernel_rfl) (fun K hK => ?_)
      go_simp
      refine ⟨_, dot_nil _ _ _ _ _ _, hK _ ?_⟩
      clear hK K
      iterate 3 (refine St.want (by kernel_rfl) (fun K hK => ?_); go_simp; refine hK _ ?_; clear hK K)
      refine St.nil ?_
      go_wp2_with fail
      go_roundw
      case rel => exact ⟨2, by omega, rfl, ((HV.out.set_ 1 (.int .i64 3)).alloc _).drew, ((Keeps.setCell (p := ⟨w.heap.size, 1, none⟩) HKR.out (fun _ => rfl) _).alloc _).drew⟩
      case measure => simp [intOf]
  obtain rfl : k = 2 := by omega
  have h3r := hkw.blk H3.out id
  have h4r := hkw.blk H4.out id
  have n0 := h3r.cell 0
  have hv' : Blk wr w.heap.size 255 #[.int .i64 3, .int .i64 3, .int .i64 0] := by simpa using hv
  have R3 := Lib.hid h3r
  have R4 := Lib.hid h4r
  have RV := Lib.hid hv'
  have HKW := Lib.hid hkw
  have zwr := hkw.size
  clear h3r h4r hv hv' hkr hkw ctr h2r hsr
  go_upto_region 8 with (fail)
  refine point_r8 wr p3 p4 w.heap.size d2 R3.out R4.out RV.out _ ?_
  intro w5 y41 y42 y43 y44 y45 y46 y47 y48 y49 y50 y51 g cc hb4 ho4 hg4 hk4
  have HB4 := Lib.hid hb4
  have HO4 := Lib.hid ho4
  have HK4 := Lib.hid (((HKW.out.mono (S' := (· = p4)) (fun _ _ h => h.elim)).trans hk4 (fun _ _ h => h)))
  clear R3 R4 RV hb4 ho4 hk4 n0
  go_wp2_with fail
  refine bodyPost_end (results_none rfl _ _ _) rfl ?_
  exact ⟨rfl, g, cc, HB4.out, HO4.out, by omega, HK4.out⟩
end Go.Proofs.YtempdomhbfokmaaGreatDoor

namespace Go.Proofs.YtempdomhbfokmaaGreatDoor
open Go.RowKit

set_option maxRecDepth 100000 in
set_option maxHeartbeats 2000000 in
/-- place.Index over no dimensions: the function once -/
theorem index_one (w : World) (fn : FuncId) (caps : Array Value) (R : World → World → Prop) (hf : ∀ (args : Array Value) (W : World), Sem.run Tryz.prog (callFunc fn args) W = .ok (.enter fn args) W)
    (hc : ∀ (W : World) (g : Nat), Below w.heap.size w W → Calls Tryz.prog fn (#[.slice (some ⟨g, 0, none⟩) 0 0] ++ caps) W fun e w' => e = .returned (.tuple #[]) ∧ R W w') :
    Calls Tryz.prog 205 #[.slice none 0 0, .func (.func fn) #[] caps] w fun e w' => e = .returned (.tuple #[]) ∧ ∃ W, Below w.heap.size w W ∧ R W w' := by
  obtain ⟨o, hmk⟩ := make_ints
  have HC := Lib.hid hc
  clear hc
  go_enter Tryz.func205, Tryz.ntmps205
  go_wp2_with fail
  have hb := ((Below.refl w.heap.size w).alloc (Nat.le_refl _) o)
  generalize w.alloc o = W at *
  have HB := Lib.hid hb
  clear hb hmk
  refine wp_loop_rounds 1 ?_
  rw [rounds_succ]
  go_wp2_with fail
  refine (HC.out W _ HB.out).mono ?_
  rintro e w2 ⟨rfl, hR⟩
  have HR := Lib.hid hR
  clear hR HC
  go_wp2_with fail
  go_loop [5] (fun i => i = .int .i64 (-1)) (fun _ => 0)
  case atStart => rfl
  subst hrel
  go_wp2_with fail
  refine bodyPost_ret (results_none rfl _ _ _) rfl ?_
  exact ⟨rfl, W, HB.out, HR.out⟩
theorem info_tensor : (Tryz.prog.info? 65).map (fun i => (i.zero, i.size, i.bytes)) = some (some (.agg #[.slice none 0 0, .slice none 0 0]), 2, 48) := by kernel_rfl
set_option maxRecDepth 100000 in
set_option maxHeartbeats 4000000 in
theorem pointwise_std (w : World) (d2 ga gd c ca : Nat) (ct : TAt w ga gd c) :
    Calls Tryz.prog 159 #[.agg #[.int .i64 4, .slice (some ⟨d2, 0, none⟩) 2 2, .string ⟨#[]⟩, .slice none 0 0, .string ⟨#[]⟩, .slice none 0 0, .int .i64 0, .int .i64 0, .int .i64 0, .int .i64 0, .slice none 0 0, .slice none 0 0], .slice none 0 0, .slice (some ⟨ga, 0, none⟩) 2 ca] w fun e w' => ∃ g cc, e = .returned (.slice (some ⟨g, 0, none⟩) 1 cc) ∧
      Own w' (· = g) 3 1 (.slice (some ⟨g, 0, none⟩) 1 cc) 1 (ints [6]) ∧ w.heap.size ≤ g ∧ Below w.heap.size w w' := by
  have hmf : ∀ (fn : Fn) (first cap : Array Value) (w : World), (Instr.makeFunc fn first cap).run Tryz.prog w = .ok (.func fn first cap) w := fun _ _ _ _ => rfl
  have CT := Lib.hid ct
  have la := ct.la
  have ld := ct.ld
  obtain ⟨i0, hi, hz0, hz1, hz2⟩ := info_parts info_ints'
  clear ct
  go_enter Tryz.func159, Tryz.ntmps159
  go_upto_region 2 with (fail)
  obtain ⟨k3, k1, k2, hbW⟩ := blk_three w 54 60 72 #[.int .i64 4, .slice (some ⟨d2, 0, none⟩) 2 2, .string ⟨#[]⟩, .slice none 0 0, .string ⟨#[]⟩, .slice none 0 0, .int .i64 0, .int .i64 0, .int .i64 0, .int .i64 0, .slice none 0 0, .slice none 0 0] #[.slice (some ⟨ga, 0, none⟩) 2 ca] #[.slice none 0 0]
  generalize ((w.alloc (.cells #[.int .i64 4, .slice (some ⟨d2, 0, none⟩) 2 2, .string ⟨#[]⟩, .slice none 0 0, .string ⟨#[]⟩, .slice none 0 0, .int .i64 0, .int .i64 0, .int .i64 0, .int .i64 0, .slice none 0 0, .slice none 0 0] 54)).alloc (.cells #[.slice (some ⟨ga, 0, none⟩) 2 ca] 60)).alloc (.cells #[.slice none 0 0] 72) = W at *
  have ctW := CT.out.fresh hbW
  have K1 := Lib.hid k1
  have K2 := Lib.hid k2
  have K3 := Lib.hid k3
  have HBW := Lib.hid hbW
  have HCW := Lib.hid ctW
  have y2 := k2.lt
  have y1 := k1.lt
  have y3 := k3.lt
  have zW := hbW.size
  have c1 := k1.cell 0
  clear k1 k2 k3 hbW ctW
  go_wp2_with fail
  clear c1
  go_loopw [13] (fun i wr => ∃ (k : Nat) (sv : Value) (gs : List Nat), k ≤ 2 ∧ i = .int .i64 k ∧ gs.length = k ∧ Blk wr (w.heap.size + 1 + 1) 72 #[sv] ∧ Own wr (fun g => W.heap.size ≤ g) 22 1 sv k (gs.map fun g => .slice (some ⟨g, 0, none⟩) 0 0) ∧ Keeps (fun g => g = w.heap.size + 1 + 1) W wr) (fun i _ => 2 - (intOf i).toNat)
  case atStart => exact ⟨0, _, [], by omega, rfl, rfl, K2.out, Own.nil_ _ _ _ _, Keeps.refl _ _⟩
  obtain ⟨k, sv, gs, hk, rfl, hgs, hp2, hown, hkr⟩ := hrel
  have ctr := HCW.out.keeps hkr ⟨by omega, by omega⟩
  by_cases hlt : k < 2
  · have a0 := ctr.ka 0 _ rfl
    have a1 := ctr.ka 1 _ rfl
    have a2 := ctr.ka 2 _ rfl
    have a3 := ctr.ka 3 _ rfl
    have HP2 := Lib.hid hp2
    have HOW := Lib.hid hown
    have HKR := Lib.hid hkr
    have HGS := Lib.hid hgs
    have zp := hp2.lt
    have zr := hkr.size
    clear hp2 hown hkr ctr hgs
    rcases (show k = 0 ∨ k = 1 by omega) with rfl | rfl
    all_goals
      go_upto_region 5 with (fail)
      have kt := Blk.new wr 65 #[.slice none 0 0, .slice (some ⟨gd, 0, none⟩) 1 c]
      have kp := HP2.out.alloc (.cells #[.slice none 0 0, .slice (some ⟨gd, 0, none⟩) 1 c] 65)
      have ko := HOW.out.alloc (.cells #[.slice none 0 0, .slice (some ⟨gd, 0, none⟩) 1 c] 65)
      have kk := HKR.out.alloc (.cells #[.slice none 0 0, .slice (some ⟨gd, 0, none⟩) 1 c] 65)
      obtain ⟨t9, ht9⟩ : ∃ t9, t9 = wr.heap.size := ⟨_, rfl⟩
      rw [← ht9] at kt ⊢
      clear ht9 a0 a1 a2 a3
      generalize (wr.alloc (.cells #[.slice none 0 0, .slice (some ⟨gd, 0, none⟩) 1 c] 65)) = w1 at *
      refine wp_region_last (n := 7) (fun w' => w'.cell? ⟨w.heap.size + 1 + 1, 0, none⟩ = some sv ∧ w'.cell? ⟨t9, 0, none⟩ = some (.slice none 0 0)) _ (by kernel_rfl) (by kernel_rfl) (by simp only [offLast]; exact rfl) ⟨kp.cell 0, kt.cell 0⟩ ?_
      refine HW.take 0 (v := ?_) rfl (by kernel_rfl) (by kernel_rfl) (by kernel_rfl) (fun _ _ _ h => h) (by kernel_rfl) ?_ ?_; rotate_left 1; (focus (intro W hW; (try dsimp only at hW); go_split_ands; first | (go_simp; done) | (go_simp; with_reducible rfl))); simp only [Act.put, List.setIfInBounds_toArray, List.set_cons_zero, List.set_cons_succ]
      refine HW.take 1 (v := ?_) rfl (by kernel_rfl) (by kernel_rfl) (by kernel_rfl) (fun _ _ _ h => h) (by kernel_rfl) ?_ ?_; rotate_left 1; (focus (intro W hW; (try dsimp only at hW); go_split_ands; first | (go_simp; done) | (go_simp; with_reducible rfl))); simp only [Act.put, List.setIfInBounds_toArray, List.set_cons_zero, List.set_cons_succ]
      refine HW.take 2 (v := ?_) rfl (by kernel_rfl) (by kernel_rfl) (by kernel_rfl) (fun _ _ _ h => h) (by kernel_rfl) ?_ ?_; rotate_left 1; (focus (intro W hW; (try dsimp only at hW); go_split_ands; first | (go_simp; done) | (go_simp; with_reducible rfl))); simp only [Act.put, List.setIfInBounds_toArray, List.set_cons_zero, List.set_cons_succ]
      refine HW.take 3 (v := ?_) rfl (by kernel_rfl) (by kernel_rfl) (by kernel_rfl) (fun _ _ _ h => h) (by kernel_rfl) ?_ ?_; rotate_left 1; (focus (intro W hW; (try dsimp only at hW); go_split_ands; first | (go_simp; done) | (go_simp; with_reducible rfl))); simp only [Act.put, List.setIfInBounds_toArray, List.set_cons_zero, List.set_cons_succ]
      refine HW.only 4 rfl (by kernel_rfl) (by kernel_rfl) (fun K hK => Or.inl ?_)
      go_simp
      refine (along_nil _).mono ?_
      rintro e w3 ⟨g, rfl, hb3⟩
      replace hb3 := below_begin' hb3
      have kp := kp.below hb3 kp.lt
      have kt := kt.below hb3 kt.lt
      have ko := ko.fresh hb3
      have kk := kk.fresh hb3
      dsimp only
      refine hK _ _ ⟨kp.cell 0, kt.cell 0⟩ ?_
      clear hK K hb3
      refine HW.only 5 rfl (by kernel_rfl) (by kernel_rfl) (fun K hK => Or.inl ?_)
      go_simp
      have kp := kp.alloc (.cells #[.slice (some ⟨g, 0, none⟩) 0 0] 22)
      have kt := kt.alloc (.cells #[.slice (some ⟨g, 0, none⟩) 0 0] 22)
      have ko := ko.alloc (.cells #[.slice (some ⟨g, 0, none⟩) 0 0] 22)
      have kk := kk.alloc (.cells #[.slice (some ⟨g, 0, none⟩) 0 0] 22)
      have hne := ko.ne_blk kp (by decide)
      have hnt := ko.ne_blk kt (by decide)
      refine hK _ _ ⟨kp.cell 0, kt.cell 0⟩ ?_
      clear hK K
      refine HW.only 6 rfl (by kernel_rfl) (by kernel_rfl) (fun K hK => Or.inl ?_)
      refine wp_append_any _ _ _ _ rfl 22 i0 _ 1 24 Tryz.underlying72 hi hz0 hz1 hz2 rfl (by omega) sv _ _ rfl ko _ 1 1 _ rfl (reads_cells _ _ [_] 1 1 rfl) (by intro u hu; simp at hu; subst hu; rfl) (by unfold maxLen; omega) (by omega) ?_
      intro v' w4 happ
      obtain ⟨g4, cc, rfl, -, -, -, -⟩ := happ.1.form (by omega)
      have kp := kp.grown happ.2.1 (fun e => hne e.symm)
      have kt := kt.grown happ.2.1 (fun e => hnt e.symm)
      have kz := kk.size
      simp at kz
      have kk := kk.grown happ.2.1 (fun g e h => by have h1 : W.heap.size ≤ g := ko.2 g e; omega)
      refine hK _ _ ⟨kp.cell 0, kt.cell 0⟩ ?_
      clear hK K
      simp only [Act.put, List.setIfInBounds_toArray, List.set_cons_zero, List.set_cons_succ]
      refine HW.skip 7 rfl (by kernel_rfl) (by kernel_rfl) (by kernel_rfl) (fun _ _ _ h => h) (by kernel_rfl) ?_
      refine HW.last (by kernel_rfl) rfl (fun K hK => ?_)
      have c4 := kp.cell 0
      have f4 := kp.frozen 0
      go_simp
      refine hK _ _ ?_
      clear hK K c4 f4
      have hap := Lib.hid happ.1
      have KP := Lib.hid kp
      have KK := Lib.hid kk
      clear happ kp kk kt ko hne hnt
      go_wp2_with fail
      go_roundw
      case rel =>
        have hgl := HGS.out
        refine ⟨gs.length + 1, .slice (some ⟨g4, 0, none⟩) (gs.length + 1) cc, gs ++ [g], by omega, by rw [hgl]; rfl, by simp, by rw [hgl]; exact KP.out.set_ 0 _, ?_, Keeps.setCell (p := ⟨w.heap.size + 1 + 1, 0, none⟩) KK.out (fun _ => rfl) _⟩
        rw [List.map_append, hgl]
        refine (hap.out.setCell (p := ⟨w.heap.size + 1 + 1, 0, none⟩) ?_ _).more ?_
        · rintro (h | h)
          · have h1 : W.heap.size ≤ w.heap.size + 1 + 1 := h; omega
          · have h1 : w.heap.size + 1 + 1 = _ := h; simp at h1; omega
        · intro g _ h
          rcases h with h | h
          · exact h
          · have h1 : g = _ := h; simp at h1; omega
      case measure => simp [intOf]
  · obtain rfl : k = 2 := by omega
    match gs, hgs with
    | [g0, g1], _ =>
    obtain ⟨gt, cs, rfl, -, -, zt, yt⟩ := hown.form (by omega)
    have hkw : Below w.heap.size w wr := by
      have h1 := HBW.out
      exact ⟨hkr.os.trans h1.os, hkr.tape.trans h1.tape, hkr.output.trans h1.output, Nat.le_trans h1.size hkr.size, fun i hi => (hkr.block i (Nat.lt_of_lt_of_le hi h1.size) (by show ¬ i = w.heap.size + 1 + 1; omega)).trans (h1.block i hi)⟩
    have h1r := hkr.blk K1.out (by show ¬ w.heap.size + 1 = w.heap.size + 1 + 1; omega)
    have h3r := hkr.blk K3.out (by show ¬ w.heap.size = w.heap.size + 1 + 1; omega)
    have hsr : Own wr (· = gt) 22 1 (.slice (some ⟨gt, 0, none⟩) 2 cs) 2 [.slice (some ⟨g0, 0, none⟩) 0 0, .slice (some ⟨g1, 0, none⟩) 0 0] := ⟨hown.1, fun g e => by simp [Value.ownBlock] at e; exact e.symm⟩
    have q4 := Blk.new wr 22 #[.slice none 0 0]
    have HP := Lib.hid (fun (W' : World) (g : Nat) (hb : Below (wr.alloc (.cells #[.slice none 0 0] 22)).heap.size (wr.alloc (.cells #[.slice none 0 0] 22)) W') =>
      point1_std W' (w.heap.size + 1) (w.heap.size + 1 + 1) w.heap.size wr.heap.size ga gd c ca gt cs g0 d2 (some ⟨g1, 0, none⟩)
        ((ctr.fresh ((Below.refl _ _).alloc (Nat.le_refl _) _)).fresh hb) ((h1r.alloc _).below hb (h1r.alloc _).lt) ((hp2.alloc _).below hb (hp2.alloc _).lt) ((hsr.alloc _).fresh hb) ((h3r.alloc _).below hb (h3r.alloc _).lt) (q4.below hb q4.lt) (some ⟨g, 0, none⟩))
    have HKW := Lib.hid hkw
    have zw := hkw.size
    clear hp2 hown hkr ctr hkw h1r h3r hsr q4
    have HI := Lib.hid (index_one (wr.alloc (.cells #[.slice none 0 0] 22)) 210 #[.pointer (some ⟨w.heap.size + 1, 0, none⟩), .pointer (some ⟨w.heap.size + 1 + 1, 0, none⟩), .pointer (some ⟨w.heap.size, 0, none⟩), .pointer (some ⟨wr.heap.size, 0, none⟩)]
      (fun W w' => ∃ g cc, Blk w' wr.heap.size 22 #[.slice (some ⟨g, 0, none⟩) 1 cc] ∧ Own w' (· = g) 3 1 (.slice (some ⟨g, 0, none⟩) 1 cc) 1 (ints [6]) ∧ W.heap.size ≤ g ∧ Keeps (· = wr.heap.size) W w') (fun _ _ => rfl)
      (fun W' g hb => (HP.out W' g hb).mono (fun e w' h => by obtain ⟨g, cc, h1, h2, h3, h4, h5⟩ := h; exact ⟨h1, g, cc, h2, h3, h4, h5⟩)))
    go_wp2_with fail
    refine HI.out.mono ?_
    rintro e w5 ⟨rfl, W5, hb5, g, cc, hb4, ho4, hg4, hk4⟩
    have c4 := hb4.cell 0
    have h5 : Below w.heap.size w w5 := by
      have h1 := HKW.out
      have hz := hb5.size
      simp at hz
      exact ⟨hk4.os.trans (hb5.os.trans h1.os), hk4.tape.trans (hb5.tape.trans h1.tape), hk4.output.trans (hb5.output.trans h1.output), by have := hk4.size; omega, fun i hi => ((hk4.block i (by omega) (by show ¬ i = wr.heap.size; omega)).trans (hb5.block i (by simp; omega))).trans ((Below.heap_alloc wr _ i (by omega)).trans (h1.block i hi))⟩
    have hgw : w.heap.size ≤ g := by have hz := hb5.size; simp at hz; omega
    have HO4 := Lib.hid ho4
    have H5 := Lib.hid h5
    clear HP HI hb5 hb4 ho4 hk4 h5
    go_wp2_with fail
    go_ret
    exact ⟨g, cc, rfl, HO4.out, hgw, H5.out⟩
end Go.Proofs.YtempdomhbfokmaaGreatDoor

namespace Go.Proofs.YtempdomhbfokmaaGreatDoor
open Go.RowKit

set_option maxRecDepth 100000 in
set_option maxHeartbeats 2000000 in
theorem value_const (w : World) (p : Value) (d1 : Nat) (h : Blk w d1 3 #[.int .i64 3]) :
    Calls Tryz.prog 116 #[p, .agg #[.int .i64 2, .slice none 0 0, .string ⟨#[]⟩, .slice none 0 0, .string ⟨#[]⟩, .slice none 0 0, .int .i64 0, .int .i64 0, .int .i64 0, .int .i64 0, .slice (some ⟨d1, 0, none⟩) 1 1, .slice none 0 0], .slice none 0 0, .slice none 0 0] w fun e w' => ∃ g cc, e = .returned (.slice (some ⟨g, 0, none⟩) 1 cc) ∧
      Own w' (· = g) 3 1 (.slice (some ⟨g, 0, none⟩) 1 cc) 1 (ints [3]) ∧ w.heap.size ≤ g ∧ Below w.heap.size w w' := by
  have HC := Lib.hid (fun o => clone_any (w.alloc o) (· = d1) (some ⟨d1, 0, none⟩) 1 1 (ints [3]) ((h.reads (n := 1) (size := 1) rfl).alloc o) (ints_one _) (by omega) (by intro e; cases e))
  clear h
  go_enter Tryz.func116, Tryz.ntmps116
  go_wp2_with fail
  refine (HC.out _).mono ?_
  rintro e w2 ⟨v, rfl, hfr, hb2⟩
  obtain ⟨g, cc, rfl, -, -, hg, yg⟩ := hfr.form (by omega)
  have ho : Own w2 (· = g) 3 1 (.slice (some ⟨g, 0, none⟩) 1 cc) 1 (ints [3]) := ⟨hfr.1, fun g e => by simp [Value.ownBlock] at e; exact e.symm⟩
  have HO := Lib.hid ho
  have YG := Lib.hid yg
  have HB := Lib.hid (Below.trans (by go_grown) (hb2.mono (by simp)) : Below w.heap.size w w2)
  clear ho hfr hb2 yg
  go_wp2_with fail
  go_ret
  refine ⟨g, cc, rfl, HO.out, ?_, HB.out⟩
  have h1 := YG.out
  simp at h1
  omega
set_option maxRecDepth 100000 in
set_option maxHeartbeats 2000000 in
theorem value_add (w : World) (p : Value) (d2 ga gd c ca : Nat) (ct : TAt w ga gd c) :
    Calls Tryz.prog 116 #[p, .agg #[.int .i64 4, .slice (some ⟨d2, 0, none⟩) 2 2, .string ⟨#[]⟩, .slice none 0 0, .string ⟨#[]⟩, .slice none 0 0, .int .i64 0, .int .i64 0, .int .i64 0, .int .i64 0, .slice none 0 0, .slice none 0 0], .slice none 0 0, .slice (some ⟨ga, 0, none⟩) 2 ca] w fun e w' => ∃ g cc, e = .returned (.slice (some ⟨g, 0, none⟩) 1 cc) ∧
      Own w' (· = g) 3 1 (.slice (some ⟨g, 0, none⟩) 1 cc) 1 (ints [6]) ∧ w.heap.size ≤ g ∧ Below w.heap.size w w' := by
  have HP := Lib.hid (fun o => pointwise_std (w.alloc o) d2 ga gd c ca (ct.fresh ((Below.refl _ _).alloc (Nat.le_refl _) o)))
  clear ct
  go_enter Tryz.func116, Tryz.ntmps116
  go_wp2_with fail
  refine (HP.out _).mono ?_
  rintro e w2 ⟨g, cc, rfl, ho, hg, hb2⟩
  have HO := Lib.hid ho
  have HB := Lib.hid (Below.trans (by go_grown) (hb2.mono (by simp)) : Below w.heap.size w w2)
  have HG : w.heap.size ≤ g := by simp at hg; omega
  clear ho hb2 hg
  go_wp2_with fail
  go_ret
  exact ⟨g, cc, rfl, HO.out, HG, HB.out⟩
set_option maxRecDepth 100000 in
set_option maxHeartbeats 2000000 in
theorem feed_std (w : World) (bx d3 d4 mg : Nat) (sv : Value) (hx : Blk w bx 124 #[.string ⟨#[103]⟩, .slice none 0 0, .slice (some ⟨d3, 0, none⟩) 2 2, .slice (some ⟨d4, 0, none⟩) 1 1, .slice none 0 0, sv, .slice none 0 0, .map (some mg), .slice none 0 0, .slice none 0 0]) :
    Calls Tryz.prog 81 #[.pointer (some ⟨bx, 0, none⟩), .slice none 0 0] w fun e w' => e = .returned (.int .i64 0) ∧ w' = w := by
  have x1 := hx.cell 1
  have x6 := hx.cell 6
  clear hx
  go_enter Tryz.func81, Tryz.ntmps81
  go_wp2_with fail
  go_loop [20] (fun i => i = .int .i64 0) (fun _ => 0)
  case atStart => rfl
  subst hrel
  go_wp2_with fail
  go_ret
  exact ⟨rfl, rfl⟩
end Go.Proofs.YtempdomhbfokmaaGreatDoor

namespace Go.Proofs.YtempdomhbfokmaaGreatDoor
open Go.RowKit

/-- what is there behind k nodes -/
structure V1 (B : Nat) (wr : World) (v : Value) (go co g c : Nat) : Prop where
  e : v = .slice (some ⟨go, 0, none⟩) 1 co
  o : Own wr (fun g => B ≤ g) 65 2 (.slice (some ⟨go, 0, none⟩) 1 co) 1 [.slice none 0 0, .slice (some ⟨g, 0, none⟩) 1 c]
  d : Own wr (· = g) 3 1 (.slice (some ⟨g, 0, none⟩) 1 c) 1 (ints [3])
  le : B ≤ g
structure V2 (B : Nat) (wr : World) (v : Value) (go co : Nat) (v0 : Value) (g c : Nat) : Prop where
  e : v = .slice (some ⟨go, 0, none⟩) 2 co
  o : Own wr (fun g => B ≤ g) 65 2 (.slice (some ⟨go, 0, none⟩) 2 co) 2 [.slice none 0 0, v0, .slice none 0 0, .slice (some ⟨g, 0, none⟩) 1 c]
  d : Own wr (· = g) 3 1 (.slice (some ⟨g, 0, none⟩) 1 c) 1 (ints [6])
  le : B ≤ g
def VRel (B : Nat) (wr : World) (k : Nat) (v : Value) : Prop := (k = 0 → v = .slice none 0 0) ∧ (k = 1 → ∃ go co g c, V1 B wr v go co g c) ∧ (k = 2 → ∃ go co v0 g c, V2 B wr v go co v0 g c)
theorem Own.get2 {w : World} {T : Nat → Prop} {e : TypeId} {g cap n : Nat} {xs : List Value} (h : Own w T e 2 (.slice (some ⟨g, 0, none⟩) n cap) n xs) (hn : 0 < n) (j : Nat) (u : Value) (hu : xs[j]? = some u) : w.cell? ⟨g, j, none⟩ = some u := by
  obtain ⟨ad, e, -, -, hc⟩ := h.reads.2 hn
  injection e with e
  subst e
  have := hc j u hu
  rw [Addr.add_lit] at this
  simpa using this
def prs (s : Value) : Nat → List Value
  | 0 => []
  | n + 1 => prs s n ++ [.slice none 0 0, s]
set_option maxRecDepth 100000 in
set_option maxHeartbeats 8000000 in
theorem values_std (w : World) (bx d1 d2 d3 d4 gs cs mg : Nat) (hg : GAt w d1 d2 d3 d4) (hs : Own w (· = gs) 51 1 (.slice (some ⟨gs, 0, none⟩) 2 cs) 2 [.slice none 0 0, .slice none 0 0])
    (hx : Blk w bx 124 #[.string ⟨#[103]⟩, .slice none 0 0, .slice (some ⟨d3, 0, none⟩) 2 2, .slice (some ⟨d4, 0, none⟩) 1 1, .slice none 0 0, .slice (some ⟨gs, 0, none⟩) 2 cs, .slice none 0 0, .map (some mg), .slice none 0 0, .slice none 0 0]) :
    Calls Tryz.prog 84 #[.pointer (some ⟨bx, 0, none⟩), .slice none 0 0] w fun e w' => ∃ go co v0 g c, V2 w.heap.size w' (.slice (some ⟨go, 0, none⟩) 2 co) go co v0 g c ∧ e = .returned (.slice (some ⟨go, 0, none⟩) 2 co) ∧ Below w.heap.size w w' := by
  have HG := Lib.hid hg
  have HS := Lib.hid hs
  have HX := Lib.hid hx
  have x2 := hx.cell 2
  obtain ⟨i0, hi, hz0, hz1, hz2⟩ := info_parts info_tensor
  clear hg hs hx
  go_enter Tryz.func84, Tryz.ntmps84
  go_wp2_with fail
  clear x2
  go_loopw [5, 6, 19] (fun v f i wr => ∃ k : Nat, k ≤ 2 ∧ i = .int .i64 k ∧ f = .int .i64 0 ∧ Below w.heap.size w wr ∧ VRel w.heap.size wr k v) (fun _ _ i _ => 2 - (intOf i).toNat)
  case atStart => exact ⟨0, by omega, rfl, rfl, Below.refl _ _, (fun _ => rfl), (fun h => absurd h (by omega)), (fun h => absurd h (by omega))⟩
  obtain ⟨k, hk, rfl, rfl, hbr, hv⟩ := hrel
  by_cases hlt : k < 2
  · have hgr := HG.out.fresh hbr
    have hsr := HS.out.fresh hbr
    have hxr := HX.out.below hbr HX.out.lt
    have x5 := hxr.cell 5
    have s0 := hsr.get 0 (by omega)
    have s1 := hsr.get 1 (by omega)
    have zx := hxr.lt
    have zs := hsr.lt (g := gs) rfl
    have z3 := hgr.k3.lt
    have z2 := hgr.k2.lt
    have a0 := hgr.k2.cell 0
    have a1 := hgr.k2.cell 1
    have HGR := Lib.hid hgr
    have HBR := Lib.hid hbr
    have hd := hgr.k3
    simp at x5 s0 s1 a0 a1
    rcases (show k = 0 ∨ k = 1 by omega) with rfl | rfl
    · obtain rfl := hv.1 rfl
      have n0 := Blk.cell hd 0; have n1 := Blk.cell hd 1; have n2 := Blk.cell hd 2; have n3 := Blk.cell hd 3; have n4 := Blk.cell hd 4; have n5 := Blk.cell hd 5; have n6 := Blk.cell hd 6; have n7 := Blk.cell hd 7; have n8 := Blk.cell hd 8; have n9 := Blk.cell hd 9; have n10 := Blk.cell hd 10; have n11 := Blk.cell hd 11
      simp at n0 n1 n2 n3 n4 n5 n6 n7 n8 n9 n10 n11
      clear hgr hsr hxr hbr hd hv
      go_upto_region 10 with (go_at_call 111; refine (dims_nil _ _ _).mono ?_; rintro e w' ⟨rfl, rfl⟩)
      have kn := Blk.new wr 54 #[.int .i64 2, .slice none 0 0, .string ⟨#[]⟩, .slice none 0 0, .string ⟨#[]⟩, .slice none 0 0, .int .i64 0, .int .i64 0, .int .i64 0, .int .i64 0, .slice (some ⟨d1, 0, none⟩) 1 1, .slice none 0 0]
      have hb1 : Below w.heap.size w (wr.alloc (.cells #[.int .i64 2, .slice none 0 0, .string ⟨#[]⟩, .slice none 0 0, .string ⟨#[]⟩, .slice none 0 0, .int .i64 0, .int .i64 0, .int .i64 0, .int .i64 0, .slice (some ⟨d1, 0, none⟩) 1 1, .slice none 0 0] 54)) := HBR.out.alloc HBR.out.size _
      have g1 := HGR.out.alloc_ (.cells #[.int .i64 2, .slice none 0 0, .string ⟨#[]⟩, .slice none 0 0, .string ⟨#[]⟩, .slice none 0 0, .int .i64 0, .int .i64 0, .int .i64 0, .int .i64 0, .slice (some ⟨d1, 0, none⟩) 1 1, .slice none 0 0] 54)
      obtain ⟨tn, htn⟩ : ∃ t, t = wr.heap.size := ⟨_, rfl⟩
      rw [← htn] at kn ⊢
      clear htn n0 n1 n2 n3 n4 n5 n6 n7 n8 n9 n10 n11 x5 s0 s1 a0 a1 zx zs z3 z2
      generalize (wr.alloc (.cells #[.int .i64 2, .slice none 0 0, .string ⟨#[]⟩, .slice none 0 0, .string ⟨#[]⟩, .slice none 0 0, .int .i64 0, .int .i64 0, .int .i64 0, .int .i64 0, .slice (some ⟨d1, 0, none⟩) 1 1, .slice none 0 0] 54)) = W at *
      have KN := Lib.hid kn
      have HB1 := Lib.hid hb1
      have HV := Lib.hid (value_const W (.pointer (some ⟨bx, 0, none⟩)) d1 g1.k1)
      have n0 := Blk.cell kn 0; have n1 := Blk.cell kn 1; have n2 := Blk.cell kn 2; have n3 := Blk.cell kn 3; have n4 := Blk.cell kn 4; have n5 := Blk.cell kn 5; have n6 := Blk.cell kn 6; have n7 := Blk.cell kn 7; have n8 := Blk.cell kn 8; have n9 := Blk.cell kn 9; have n10 := Blk.cell kn 10; have n11 := Blk.cell kn 11
      clear kn hb1 g1 HGR HBR
      go_wp2_with fail
      go_loop [10, 51] (fun a i => a = .slice none 0 0 ∧ i = .int .i64 0) (fun _ _ => 0)
      case atStart => exact ⟨rfl, rfl⟩
      obtain ⟨rfl, rfl⟩ := hrel
      go_wp2_with fail
      refine HV.out.mono ?_
      rintro e w2 ⟨g, c, rfl, ho, hgle, hb2⟩
      have HO := Lib.hid ho
      have HB2 := Lib.hid (HB1.out.trans (hb2.mono HB1.out.size))
      have HLE : w.heap.size ≤ g := Nat.le_trans HB1.out.size hgle
      clear ho hb2 hgle HV n0 n1 n2 n3 n4 n5 n6 n7 n8 n9 n10 n11 KN HB1
      go_wp2_with (first
        | (at_builtin; go_must (refine wpList_append_any _ rfl _ _ 60 rfl 65 i0 _ 2 48 Tryz.underlying60 hi hz0 hz1 hz2 rfl (by omega) (.slice none 0 0) 0 [] rfl (Own.nil_ _ (fun _ => False) _ _) _ 1 1 _ rfl (reads_cells _ _ [_, _] 2 1 rfl) (by intro u hu; simp at hu; rcases hu with rfl | rfl <;> rfl) (by unfold maxLen; omega) (by omega) ?_); intro v' w3 happ))
      obtain ⟨go, co, rfl, -, -, -, -⟩ := happ.1.form (by omega)
      have hap := Lib.hid happ
      clear happ
      go_roundw
      case rel =>
        have hz := HB2.out.size
        have hap1 := hap.out.1
        refine ⟨1, by omega, rfl, rfl, ?_, (fun h => absurd h (by omega)), (fun _ => ⟨go, co, g, c, rfl, hap1.more (fun q _ h => ?_), ?_, HLE⟩), (fun h => absurd h (by omega))⟩
        · exact (HB2.out.alloc hz _).grown hap.out.2.1 (by simp; omega) (fun g e => by simp [Value.ownBlock] at e)
        · rcases h with h | h
          · exact h.elim
          · have h1 : q = _ := h; simp at h1; omega
        · exact (HO.out.alloc _).grown hap.out.2.1 (fun g e => by simp [Value.ownBlock] at e)
      case measure => simp [intOf]
    · obtain ⟨go, co, g, c, hV⟩ := hv.2.1 rfl
      obtain rfl := hV.e
      have o0 := hV.o.get2 (by omega) 0 _ rfl
      have o1 := hV.o.get2 (by omega) 1 _ rfl
      have zo := hV.o.lt (g := go) rfl
      have n0 := Blk.cell hd 12; have n1 := Blk.cell hd 13; have n2 := Blk.cell hd 14; have n3 := Blk.cell hd 15; have n4 := Blk.cell hd 16; have n5 := Blk.cell hd 17; have n6 := Blk.cell hd 18; have n7 := Blk.cell hd 19; have n8 := Blk.cell hd 20; have n9 := Blk.cell hd 21; have n10 := Blk.cell hd 22; have n11 := Blk.cell hd 23
      simp at n0 n1 n2 n3 n4 n5 n6 n7 n8 n9 n10 n11
      have HV1 := Lib.hid hV
      clear hgr hsr hxr hbr hd hv hV
      go_upto_region 10 with (go_at_call 111; refine (dims_nil _ _ _).mono ?_; rintro e w' ⟨rfl, rfl⟩)
      have kn := Blk.new wr 54 #[.int .i64 4, .slice (some ⟨d2, 0, none⟩) 2 2, .string ⟨#[]⟩, .slice none 0 0, .string ⟨#[]⟩, .slice none 0 0, .int .i64 0, .int .i64 0, .int .i64 0, .int .i64 0, .slice none 0 0, .slice none 0 0]
      have hb1 : Below w.heap.size w (wr.alloc (.cells #[.int .i64 4, .slice (some ⟨d2, 0, none⟩) 2 2, .string ⟨#[]⟩, .slice none 0 0, .string ⟨#[]⟩, .slice none 0 0, .int .i64 0, .int .i64 0, .int .i64 0, .int .i64 0, .slice none 0 0, .slice none 0 0] 54)) := HBR.out.alloc HBR.out.size _
      have g1 := HGR.out.alloc_ (.cells #[.int .i64 4, .slice (some ⟨d2, 0, none⟩) 2 2, .string ⟨#[]⟩, .slice none 0 0, .string ⟨#[]⟩, .slice none 0 0, .int .i64 0, .int .i64 0, .int .i64 0, .int .i64 0, .slice none 0 0, .slice none 0 0] 54)
      have ho1 := HV1.out.o.alloc (.cells #[.int .i64 4, .slice (some ⟨d2, 0, none⟩) 2 2, .string ⟨#[]⟩, .slice none 0 0, .string ⟨#[]⟩, .slice none 0 0, .int .i64 0, .int .i64 0, .int .i64 0, .int .i64 0, .slice none 0 0, .slice none 0 0] 54)
      have hd1 := HV1.out.d.alloc (.cells #[.int .i64 4, .slice (some ⟨d2, 0, none⟩) 2 2, .string ⟨#[]⟩, .slice none 0 0, .string ⟨#[]⟩, .slice none 0 0, .int .i64 0, .int .i64 0, .int .i64 0, .int .i64 0, .slice none 0 0, .slice none 0 0] 54)
      have hle := HV1.out.le
      obtain ⟨tn, htn⟩ : ∃ t, t = wr.heap.size := ⟨_, rfl⟩
      rw [← htn] at kn ⊢
      clear htn n0 n1 n2 n3 n4 n5 n6 n7 n8 n9 n10 n11 x5 s0 s1 a0 a1 zx zs z3 z2 o0 o1 zo HV1
      generalize (wr.alloc (.cells #[.int .i64 4, .slice (some ⟨d2, 0, none⟩) 2 2, .string ⟨#[]⟩, .slice none 0 0, .string ⟨#[]⟩, .slice none 0 0, .int .i64 0, .int .i64 0, .int .i64 0, .int .i64 0, .slice none 0 0, .slice none 0 0] 54)) = W at *
      have KN := Lib.hid kn
      have HB1 := Lib.hid hb1
      have HO1 := Lib.hid ho1
      have HD1 := Lib.hid hd1
      have HG1 := Lib.hid g1
      have n1 := kn.cell 1
      clear kn hb1 g1 HGR HBR ho1 hd1
      go_wp2_with fail
      clear n1
      go_loopw [10, 51] (fun a i wr2 => ∃ j : Nat, j ≤ 2 ∧ i = .int .i64 j ∧ Below W.heap.size W wr2 ∧ Own wr2 (fun g => W.heap.size ≤ g) 65 2 a j (prs (.slice (some ⟨g, 0, none⟩) 1 c) j)) (fun _ i _ => 2 - (intOf i).toNat)
      case atStart => exact ⟨0, by omega, rfl, Below.refl _ _, Own.nil_ _ _ _ _⟩
      obtain ⟨j, hj, rfl, hb2, hoa⟩ := hrel
      have hg2 := HG1.out.fresh hb2
      by_cases hjt : j < 2
      · have a0 := hg2.k2.cell 0
        have a1 := hg2.k2.cell 1
        have hoo := HO1.out.fresh hb2
        have o0 := hoo.get2 (by omega) 0 _ rfl
        have o1 := hoo.get2 (by omega) 1 _ rfl
        have zo := hoo.lt (g := go) rfl
        have z2 := hg2.k2.lt
        simp at a0 a1
        have HB2 := Lib.hid hb2
        have HOA := Lib.hid hoa
        clear hg2 hoo hb2 hoa
        rcases (show j = 0 ∨ j = 1 by omega) with rfl | rfl
        all_goals
          go_wp2_with (first
            | (at_builtin; go_must (refine wpList_append_any _ rfl _ _ 60 rfl 65 i0 _ 2 48 Tryz.underlying60 hi hz0 hz1 hz2 rfl (by omega) _ _ _ rfl (HOA.out.alloc _) _ 1 1 _ rfl (reads_cells _ _ [_, _] 2 1 rfl) (by intro u hu; simp at hu; rcases hu with rfl | rfl <;> rfl) (by unfold maxLen; omega) (by omega) ?_); intro v' w3 happ))
          have hap := Lib.hid happ
          clear happ
          go_roundw
          case rel =>
            have hz := HB2.out.size
            refine ⟨_, by omega, by go_num, ?_, hap.out.1.more (fun q _ h => ?_)⟩
            · exact (HB2.out.alloc hz _).grown hap.out.2.1 (by simp; omega) (fun g e => HOA.out.2 g e)
            · rcases h with h | h
              · exact h
              · have h1 : q = _ := h; simp at h1; omega
          case measure => simp [intOf]
      obtain rfl : j = 2 := by omega
      obtain ⟨ga, ca, rfl, -, -, zga, yga⟩ := hoa.form (by omega)
      have hoo := HO1.out.fresh hb2
      have hdd := HD1.out.fresh hb2
      have kn := KN.out.below hb2 KN.out.lt
      have ct : TAt _ ga g c := ⟨fun j u hu => hoa.get2 (by omega) j u hu, by have := hdd.get 0 (by omega); simpa [ints] using this, zga, hdd.lt (g := g) rfl⟩
      have HV := Lib.hid (value_add _ (.pointer (some ⟨bx, 0, none⟩)) d2 ga g c ca ct)
      have HBW := Lib.hid (HB1.out.trans (hb2.mono HB1.out.size))
      have HOO := Lib.hid hoo
      have n0 := Blk.cell kn 0; have n1 := Blk.cell kn 1; have n2 := Blk.cell kn 2; have n3 := Blk.cell kn 3; have n4 := Blk.cell kn 4; have n5 := Blk.cell kn 5; have n6 := Blk.cell kn 6; have n7 := Blk.cell kn 7; have n8 := Blk.cell kn 8; have n9 := Blk.cell kn 9; have n10 := Blk.cell kn 10; have n11 := Blk.cell kn 11
      clear kn ct hoo hdd hoa hb2 hg2 hjt hj
      go_wp2_with fail
      refine HV.out.mono ?_
      rintro e w5 ⟨g5, c5, rfl, ho5, hge5, hb5⟩
      have HO5 := Lib.hid ho5
      have HB5 := Lib.hid (HBW.out.trans (hb5.mono HBW.out.size))
      have HLE : w.heap.size ≤ g5 := Nat.le_trans HBW.out.size hge5
      have HOO5 := Lib.hid (HOO.out.fresh hb5)
      have hne5 : g5 ≠ go := fun e => by
        have h1 := (HOO.out.lt (g := go) rfl)
        omega
      clear ho5 hb5 hge5 HV n0 n1 n2 n3 n4 n5 n6 n7 n8 n9 n10 n11 HOO
      go_wp2_with (first
        | (at_builtin; go_must (refine wpList_append_any _ rfl _ _ 60 rfl 65 i0 _ 2 48 Tryz.underlying60 hi hz0 hz1 hz2 rfl (by omega) (.slice (some ⟨go, 0, none⟩) 1 co) 1 _ rfl (HOO5.out.alloc _) _ 1 1 _ rfl (reads_cells _ _ [_, _] 2 1 rfl) (by intro u hu; simp at hu; rcases hu with rfl | rfl <;> rfl) (by unfold maxLen; omega) (by omega) ?_); intro v' w3 happ))
      obtain ⟨go2, co2, rfl, -, -, -, -⟩ := happ.1.form (by omega)
      have hap := Lib.hid happ
      clear happ
      go_roundw
      case rel =>
        have hz := HB5.out.size
        have hap1 := hap.out.1
        refine ⟨2, by omega, rfl, rfl, ?_, (fun h => absurd h (by omega)), (fun h => absurd h (by omega)), (fun _ => ⟨go2, co2, _, g5, c5, rfl, hap1.more (fun q _ h => ?_), ?_, HLE⟩)⟩
        · exact (HB5.out.alloc hz _).grown hap.out.2.1 (by simp; omega) (fun g e => HOO5.out.2 g e)
        · rcases h with h | h
          · exact h
          · have h1 : q = _ := h; simp at h1; omega
        · exact (HO5.out.alloc _).grown hap.out.2.1 (fun q e h => by simp [Value.ownBlock] at e; omega)
      case measure => simp [intOf]
  · obtain rfl : k = 2 := by omega
    obtain ⟨go, co, v0, g, c, hV⟩ := hv.2.2 rfl
    obtain rfl := hV.e
    have HV := Lib.hid hV
    have HB := Lib.hid hbr
    clear hV hbr hv
    go_wp2_with fail
    go_ret
    exact ⟨go, co, v0, g, c, HV.out, rfl, HB.out⟩
end Go.Proofs.YtempdomhbfokmaaGreatDoor

namespace Go.Proofs.YtempdomhbfokmaaGreatDoor
open Go.RowKit

set_option maxRecDepth 100000 in
set_option maxHeartbeats 4000000 in
theorem evalAll_std (w : World) (d1 d2 d3 d4 : Nat) (hg : GAt w d1 d2 d3 d4) :
    Calls Tryz.prog 51 #[.agg #[.string ⟨#[103]⟩, .slice none 0 0, .slice (some ⟨d3, 0, none⟩) 2 2, .slice (some ⟨d4, 0, none⟩) 1 1, .slice none 0 0], .slice none 0 0] w fun e w' => ∃ go co v0 g c, e = .returned (.tuple #[.slice (some ⟨go, 0, none⟩) 2 co, .int .i64 0]) ∧ V2 w.heap.size w' (.slice (some ⟨go, 0, none⟩) 2 co) go co v0 g c ∧ Below w.heap.size w w' := by
  have HA := Lib.hid (analyze_std (w.alloc (.cells #[.string ⟨#[103]⟩, .slice none 0 0, .slice (some ⟨d3, 0, none⟩) 2 2, .slice (some ⟨d4, 0, none⟩) 1 1, .slice none 0 0] 59)) d1 d2 d3 d4 (hg.alloc_ _))
  have HG := Lib.hid hg
  clear hg
  go_enter Tryz.func51, Tryz.ntmps51
  go_wp2_with fail
  refine HA.out.mono ?_
  rintro e w2 ⟨bx, gs, cs, mg, rfl, hx, hs, zb, zg, hb⟩
  have hbw : Below w.heap.size w w2 := Below.trans (by go_grown) (hb.mono (by simp))
  have HX := Lib.hid hx
  have HF := Lib.hid (feed_std w2 bx d3 d4 mg _ hx)
  have HV := Lib.hid (values_std w2 bx d1 d2 d3 d4 gs cs mg (HG.out.fresh hbw) hs hx)
  have HB := Lib.hid hbw
  have x6 := hx.cell 6
  clear hx hs zb zg hb hbw HA
  go_upto_region 8 with (go_at_call 81; refine HF.out.mono ?_; rintro e w' ⟨rfl, rfl⟩)
  go_wp2_with fail
  go_loop [9, 32] (fun v i => v = .slice none 0 0 ∧ i = .int .i64 0) (fun _ _ => 0)
  case atStart => exact ⟨rfl, rfl⟩
  obtain ⟨rfl, rfl⟩ := hrel
  clear x6
  go_wp2_with fail
  refine HV.out.mono ?_
  rintro e w3 ⟨go, co, v0, g, c, hv2, rfl, hb3⟩
  have HV2 := Lib.hid hv2
  have HB3 := Lib.hid (HB.out.trans (hb3.mono HB.out.size))
  have zz := HB.out.size
  clear hv2 hb3 HV HF
  go_wp2_with fail
  go_ret2
  exact ⟨go, co, v0, g, c, rfl, ⟨rfl, HV2.out.o.more (fun g _ h => Nat.le_trans zz h), HV2.out.d, Nat.le_trans zz HV2.out.le⟩, HB3.out⟩
set_option maxRecDepth 100000 in
set_option maxHeartbeats 4000000 in
theorem eval_std (w : World) (d1 d2 d3 d4 : Nat) (hg : GAt w d1 d2 d3 d4) :
    Calls Tryz.prog 26 #[.agg #[.string ⟨#[103]⟩, .slice none 0 0, .slice (some ⟨d3, 0, none⟩) 2 2, .slice (some ⟨d4, 0, none⟩) 1 1, .slice none 0 0], .slice none 0 0] w fun e w' => ∃ go co g c, e = .returned (.tuple #[.slice (some ⟨go, 0, none⟩) 1 co, .int .i64 0]) ∧
      Own w' (· = go) 65 2 (.slice (some ⟨go, 0, none⟩) 1 co) 1 [.slice none 0 0, .slice (some ⟨g, 0, none⟩) 1 c] ∧ Own w' (· = g) 3 1 (.slice (some ⟨g, 0, none⟩) 1 c) 1 (ints [6]) ∧ Below w.heap.size w w' := by
  have HA := Lib.hid (evalAll_std (w.alloc (.cells #[.string ⟨#[103]⟩, .slice none 0 0, .slice (some ⟨d3, 0, none⟩) 2 2, .slice (some ⟨d4, 0, none⟩) 1 1, .slice none 0 0] 59)) d1 d2 d3 d4 (hg.alloc_ _))
  have HG := Lib.hid hg
  obtain ⟨i0, hi, hz0, hz1, hz2⟩ := info_parts info_tensor
  clear hg
  go_enter Tryz.func26, Tryz.ntmps26
  go_wp2_with fail
  refine HA.out.mono ?_
  rintro e w2 ⟨go, co, v0, g, c, rfl, hv2, hb⟩
  have kb := (Blk.new w 59 #[.string ⟨#[103]⟩, .slice none 0 0, .slice (some ⟨d3, 0, none⟩) 2 2, .slice (some ⟨d4, 0, none⟩) 1 1, .slice none 0 0]).below hb (by simp)
  have hbw : Below w.heap.size w w2 := Below.trans (by go_grown) (hb.mono (by simp))
  have k4 := (HG.out.fresh hbw).k4
  have b3 := kb.cell 3
  have e0 := k4.cell 0
  have o2 := hv2.o.get2 (by omega) 2 _ rfl
  have o3 := hv2.o.get2 (by omega) 3 _ rfl
  have zo := hv2.o.lt (g := go) rfl
  have HV2 := Lib.hid hv2
  have HB := Lib.hid hbw
  simp at b3 e0
  clear hv2 hb hbw kb k4 HA
  go_wp2_with fail
  go_loopw [8, 24] (fun v i wr => (i = .int .i64 0 ∧ v = .slice none 0 0 ∧ wr = w2) ∨ (i = .int .i64 1 ∧ ∃ go co g c, v = .slice (some ⟨go, 0, none⟩) 1 co ∧
      Own wr (· = go) 65 2 (.slice (some ⟨go, 0, none⟩) 1 co) 1 [.slice none 0 0, .slice (some ⟨g, 0, none⟩) 1 c] ∧ Own wr (· = g) 3 1 (.slice (some ⟨g, 0, none⟩) 1 c) 1 (ints [6]) ∧ Below w2.heap.size w2 wr)) (fun _ i _ => 1 - (intOf i).toNat)
  case atStart => exact Or.inl ⟨rfl, rfl, rfl⟩
  rcases hrel with ⟨rfl, rfl, rfl⟩ | ⟨rfl, go', co', g', c', rfl, ho', hd', hb'⟩
  · go_upto_region 9 with (fail)
    have kt := Blk.new wr 65 #[.slice none 0 0, .slice (some ⟨g, 0, none⟩) 1 c]
    have hb1 := (Below.refl wr.heap.size wr).alloc (Nat.le_refl _) (.cells #[.slice none 0 0, .slice (some ⟨g, 0, none⟩) 1 c] 65)
    have hd1 := HV2.out.d.alloc (.cells #[.slice none 0 0, .slice (some ⟨g, 0, none⟩) 1 c] 65)
    clear b3 e0 o2 o3 zo
    generalize (wr.alloc (.cells #[.slice none 0 0, .slice (some ⟨g, 0, none⟩) 1 c] 65)) = W at *
    have HCL := Lib.hid (fun (W' : World) (h : Own W' (· = g) 3 1 (.slice (some ⟨g, 0, none⟩) 1 c) 1 (ints [6])) => clone_any W' (· = g) (some ⟨g, 0, none⟩) 1 c (ints [6]) h.reads (ints_one _) (by omega) (by intro e; cases e))
    refine wp_region_last (n := 10) (fun w' => w'.cell? ⟨wr.heap.size, 0, none⟩ = some (.slice none 0 0) ∧ w'.cell? ⟨wr.heap.size, 1, none⟩ = some (.slice (some ⟨g, 0, none⟩) 1 c)) _ (by kernel_rfl) (by kernel_rfl) (by simp only [offLast]; exact rfl) ⟨kt.cell 0, kt.cell 1⟩ ?_
    refine HW.take 0 (v := ?_) rfl (by kernel_rfl) (by kernel_rfl) (by kernel_rfl) (fun _ _ _ h => h) (by kernel_rfl) ?_ ?_; rotate_left 1; (focus (intro W hW; (try dsimp only at hW); go_split_ands; first | (go_simp; done) | (go_simp; with_reducible rfl))); simp only [Act.put, List.setIfInBounds_toArray, List.set_cons_zero, List.set_cons_succ]
    refine HW.take 1 (v := ?_) rfl (by kernel_rfl) (by kernel_rfl) (by kernel_rfl) (fun _ _ _ h => h) (by kernel_rfl) ?_ ?_; rotate_left 1; (focus (intro W hW; (try dsimp only at hW); go_split_ands; first | (go_simp; done) | (go_simp; with_reducible rfl))); simp only [Act.put, List.setIfInBounds_toArray, List.set_cons_zero, List.set_cons_succ]
    refine HW.take 2 (v := ?_) rfl (by kernel_rfl) (by kernel_rfl) (by kernel_rfl) (fun _ _ _ h => h) (by kernel_rfl) ?_ ?_; rotate_left 1; (focus (intro W hW; (try dsimp only at hW); go_split_ands; first | (go_simp; done) | (go_simp; with_reducible rfl))); simp only [Act.put, List.setIfInBounds_toArray, List.set_cons_zero, List.set_cons_succ]
    refine HW.take 4 (v := ?_) rfl (by kernel_rfl) (by kernel_rfl) (by kernel_rfl) (fun _ _ _ h => h) (by kernel_rfl) ?_ ?_; rotate_left 1; (focus (intro W hW; (try dsimp only at hW); go_split_ands; first | (go_simp; done) | (go_simp; with_reducible rfl))); simp only [Act.put, List.setIfInBounds_toArray, List.set_cons_zero, List.set_cons_succ]
    refine HW.take 5 (v := ?_) rfl (by kernel_rfl) (by kernel_rfl) (by kernel_rfl) (fun _ _ _ h => h) (by kernel_rfl) ?_ ?_; rotate_left 1; (focus (intro W hW; (try dsimp only at hW); go_split_ands; first | (go_simp; done) | (go_simp; with_reducible rfl))); simp only [Act.put, List.setIfInBounds_toArray, List.set_cons_zero, List.set_cons_succ]
    refine HW.only 3 rfl (by kernel_rfl) (by kernel_rfl) (fun K hK => Or.inl ?_)
    go_simp
    refine (clone_dims_nil _).mono ?_
    rintro e w3 ⟨rfl, rfl⟩
    dsimp only
    refine hK _ _ ⟨kt.cell 0, kt.cell 1⟩ ?_
    clear hK K
    refine HW.only 6 rfl (by kernel_rfl) (by kernel_rfl) (fun K hK => Or.inl ?_)
    go_simp
    refine (HCL.out _ hd1.drew).mono ?_
    rintro e w3 ⟨v, rfl, hfr, hb3⟩
    obtain ⟨g5, c5, rfl, -, -, zg5, yg5⟩ := hfr.form (by omega)
    have ho5 : Own w3 (· = g5) 3 1 (.slice (some ⟨g5, 0, none⟩) 1 c5) 1 (ints [6]) := ⟨hfr.1, fun g e => by simp [Value.ownBlock] at e; exact e.symm⟩
    replace hb3 := below_begin' hb3
    have kt := kt.below hb3 kt.lt
    have hb1 := hb1.trans (hb3.mono hb1.size)
    dsimp only
    refine hK _ _ ⟨kt.cell 0, kt.cell 1⟩ ?_
    clear hK K hb3 hfr
    refine HW.take 7 (v := ?_) rfl (by kernel_rfl) (by kernel_rfl) (by kernel_rfl) (fun _ _ _ h => h) (by kernel_rfl) ?_ ?_; rotate_left 1; (focus (intro W hW; (try dsimp only at hW); go_split_ands; first | (go_simp; done) | (go_simp; with_reducible rfl))); simp only [Act.put, List.setIfInBounds_toArray, List.set_cons_zero, List.set_cons_succ]
    refine HW.only 8 rfl (by kernel_rfl) (by kernel_rfl) (fun K hK => Or.inl ?_)
    go_simp
    have kt := kt.alloc (.cells #[.slice none 0 0, .slice (some ⟨g5, 0, none⟩) 1 c5] 65)
    have ho5 := ho5.alloc (.cells #[.slice none 0 0, .slice (some ⟨g5, 0, none⟩) 1 c5] 65)
    have hz1 := hb1.size
    have hb1 := hb1.alloc hz1 (.cells #[.slice none 0 0, .slice (some ⟨g5, 0, none⟩) 1 c5] 65)
    refine hK _ _ ⟨kt.cell 0, kt.cell 1⟩ ?_
    clear hK K
    refine HW.only 9 rfl (by kernel_rfl) (by kernel_rfl) (fun K hK => Or.inl ?_)
    refine wp_append_any _ _ _ _ rfl 65 i0 _ 2 48 Tryz.underlying60 hi hz0 (by assumption) hz2 rfl (by omega) (.slice none 0 0) 0 [] rfl (Own.nil_ _ (fun _ => False) _ _) _ 1 1 _ rfl (reads_cells _ _ [_, _] 2 1 rfl) (by intro u hu; simp at hu; rcases hu with rfl | rfl <;> rfl) (by unfold maxLen; omega) (by omega) ?_
    intro v' w4 happ
    obtain ⟨g4, cc, rfl, -, -, -, -⟩ := happ.1.form (by omega)
    have kt := kt.grown happ.2.1 (by simp [Value.ownBlock])
    have ho5 := ho5.grown happ.2.1 (fun q e => by simp [Value.ownBlock] at e)
    have hb1 := hb1.grown happ.2.1 (by simp; omega) (fun q e => by simp [Value.ownBlock] at e)
    refine hK _ _ ⟨kt.cell 0, kt.cell 1⟩ ?_
    clear hK K
    simp only [Act.put, List.setIfInBounds_toArray, List.set_cons_zero, List.set_cons_succ]
    refine HW.skip 10 rfl (by kernel_rfl) (by kernel_rfl) (by kernel_rfl) (fun _ _ _ h => h) (by kernel_rfl) ?_
    refine HW.last (by kernel_rfl) rfl (fun K hK => ?_)
    go_simp
    refine hK _ _ ?_
    clear hK K
    have HAP := Lib.hid happ.1
    have HO5 := Lib.hid ho5
    have HB1 := Lib.hid hb1
    clear happ ho5 hb1 kt hd1
    go_wp2_with fail
    go_roundw
    case rel =>
      exact Or.inr ⟨rfl, g4, cc, g5, c5, rfl, ⟨HAP.out.1, fun g e => by simp [Value.ownBlock] at e; exact e.symm⟩, HO5.out, HB1.out⟩
    case measure => simp [intOf]
  · go_wp2_with fail
    go_ret2
    exact ⟨go', co', g', c', rfl, ho', hd', HB.out.trans (hb'.mono HB.out.size)⟩
end Go.Proofs.YtempdomhbfokmaaGreatDoor

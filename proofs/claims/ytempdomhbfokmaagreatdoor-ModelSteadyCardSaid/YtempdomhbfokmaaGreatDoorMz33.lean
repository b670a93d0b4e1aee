/- stands(): the checker's graph. stands(): analyze. -/
import Derived.Test.YtempdomhbfokmaaGreatDoorMz32
import Derived.Laws.MakeOwn
import Derived.Deep.RegionHeld3
namespace Go.Proofs.YtempdomhbfokmaaGreatDoor
open Go.RowKit

/-- the graph of stands() in memory -/
structure GAt (w : World) (d1 d2 d3 d4 : Nat) : Prop where
  k1 : Blk w d1 3 #[.int .i64 3]
  k2 : Blk w d2 3 #[.int .i64 0, .int .i64 0]
  k3 : Blk w d3 54 #[.int .i64 2, .slice none 0 0, .string ⟨#[]⟩, .slice none 0 0, .string ⟨#[]⟩, .slice none 0 0, .int .i64 0, .int .i64 0, .int .i64 0, .int .i64 0, .slice (some ⟨d1, 0, none⟩) 1 1, .slice none 0 0, .int .i64 4, .slice (some ⟨d2, 0, none⟩) 2 2, .string ⟨#[]⟩, .slice none 0 0, .string ⟨#[]⟩, .slice none 0 0, .int .i64 0, .int .i64 0, .int .i64 0, .int .i64 0, .slice none 0 0, .slice none 0 0]
  k4 : Blk w d4 3 #[.int .i64 1]
theorem GAt.keeps {w w' : World} {d1 d2 d3 d4 : Nat} {S : Nat → Prop} (h : GAt w d1 d2 d3 d4) (hk : Keeps S w w') (hs : ¬ S d1 ∧ ¬ S d2 ∧ ¬ S d3 ∧ ¬ S d4) : GAt w' d1 d2 d3 d4 :=
  ⟨hk.blk h.k1 hs.1, hk.blk h.k2 hs.2.1, hk.blk h.k3 hs.2.2.1, hk.blk h.k4 hs.2.2.2⟩
theorem GAt.fresh {w w' : World} {d1 d2 d3 d4 : Nat} (h : GAt w d1 d2 d3 d4) (hb : Below w.heap.size w w') : GAt w' d1 d2 d3 d4 :=
  h.keeps (Keeps.of_below hb (fun _ => False)) ⟨id, id, id, id⟩
theorem GAt.alloc_ {w : World} {d1 d2 d3 d4 : Nat} (h : GAt w d1 d2 d3 d4) (o : Obj) : GAt (w.alloc o) d1 d2 d3 d4 := h.fresh ((Below.refl _ _).alloc (Nat.le_refl _) _)
theorem info_bool : (Tryz.prog.info? 4).map (fun i => (i.zero, i.size, i.bytes)) = some (some (.bool false), 1, 1) := by kernel_rfl
theorem make_bools : ∃ o, ∀ W, (Instr.makeSlice 191 (.int .i64 0) (.int .i64 0)).run Tryz.prog W = .ok (.slice (some ⟨W.heap.size, 0, none⟩) 0 0) (W.alloc o) := by
  obtain ⟨i, hi, h0, h1, h2⟩ := info_parts info_bool
  exact ⟨_, fun W => run_make (P := Tryz.prog) W 191 4 i _ Tryz.underlying191 hi h0 .i64 .i64 0 0 (by omega) (by omega) (by rw [h2]; omega) (by omega)⟩
set_option maxRecDepth 100000 in
theorem graph1_no (d3 d4 b : Nat) (w : World) (hc : Blk w b 59 #[.string ⟨#[103]⟩, .slice none 0 0, .slice (some ⟨d3, 0, none⟩) 2 2, .slice (some ⟨d4, 0, none⟩) 1 1, .slice none 0 0]) : Calls Tryz.prog 145 (#[.int .i64 1] ++ #[.pointer (some ⟨b, 0, none⟩)]) w fun e w' => e = .returned (.bool false) ∧ w = w' := by
  show Calls Tryz.prog 145 #[.int .i64 1, .pointer (some ⟨b, 0, none⟩)] w _
  have c2 := hc.cell 2
  clear hc
  go_enter Tryz.func145, Tryz.ntmps145
  go_wp2_with fail
  go_ret
  exact ⟨rfl, rfl⟩
set_option maxRecDepth 100000 in
set_option maxHeartbeats 4000000 in
theorem graph_std (w : World) (bc d1 d2 d3 d4 : Nat) (hc : Blk w bc 154 #[.slice none 0 0]) (hg : GAt w d1 d2 d3 d4) :
    Calls Tryz.prog 106 #[.pointer (some ⟨bc, 0, none⟩), .agg #[.string ⟨#[103]⟩, .slice none 0 0, .slice (some ⟨d3, 0, none⟩) 2 2, .slice (some ⟨d4, 0, none⟩) 1 1, .slice none 0 0], .int .i64 1] w fun e w' => ∃ bx sv mg, e = .returned (.tuple #[.pointer (some ⟨bx, 0, none⟩), .int .i64 0]) ∧ Blk w' bx 124 #[.string ⟨#[103]⟩, .slice none 0 0, .slice (some ⟨d3, 0, none⟩) 2 2, .slice (some ⟨d4, 0, none⟩) 1 1, .slice none 0 0, sv, .slice none 0 0, .map (some mg), .slice none 0 0, .slice none 0 0] ∧
      Own w' (fun g => w.heap.size ≤ g) 51 1 sv 2 [.slice none 0 0, .slice none 0 0] ∧ w.heap.size ≤ bx ∧ Keeps (fun g => g = bc) w w' := by
  have hmm := @run_makeMap Tryz.prog
  have hmf : ∀ (fn : Fn) (first cap : Array Value) (w : World), (Instr.makeFunc fn first cap).run Tryz.prog w = .ok (.func fn first cap) w := fun _ _ _ _ => rfl
  have HC := Lib.hid hc
  have HG := Lib.hid hg
  have zc := hc.lt
  have z1 := hg.k1.lt
  have z2 := hg.k2.lt
  have z3 := hg.k3.lt
  have z4 := hg.k4.lt
  have m1 : ¬ d1 = bc := hg.k1.ne_ hc (by decide)
  have m2 : ¬ d2 = bc := hg.k2.ne_ hc (by decide)
  have m3 : ¬ d3 = bc := hg.k3.ne_ hc (by decide)
  have m4 : ¬ d4 = bc := hg.k4.ne_ hc (by decide)
  clear hc hg
  go_enter Tryz.func106, Tryz.ntmps106
  go_wp2_with fail
  refine (head_any _ bc d3 d4 (HC.out.alloc _)).mono ?_
  rintro e w1 ⟨rfl, hk1, hc1⟩
  have b0 := hk1.blk (Blk.new w 59 #[.string ⟨#[103]⟩, .slice none 0 0, .slice (some ⟨d3, 0, none⟩) 2 2, .slice (some ⟨d4, 0, none⟩) 1 1, .slice none 0 0]) (by show ¬ w.heap.size = bc; omega)
  have hK1 : Keeps (· = bc) w w1 := ((Keeps.refl (· = bc) w).alloc _).tr (hk1.mono (fun _ _ h => h))
  have HB0 := Lib.hid b0
  have HK1 := Lib.hid hK1
  have HC1 := Lib.hid hc1
  have y0 := b0.lt
  have c0 := b0.cell 0
  have c1 := b0.cell 1
  have c2 := b0.cell 2
  have c3 := b0.cell 3
  have c4 := b0.cell 4
  clear hk1 hc1 b0 hK1
  go_wp2_with fail
  obtain ⟨mg, hmg⟩ : ∃ b, b = w1.heap.size := ⟨_, rfl⟩
  rw [← hmg]
  have kx : Blk ((w1.alloc (.map #[] 0)).alloc (.cells #[.string ⟨#[103]⟩, .slice none 0 0, .slice (some ⟨d3, 0, none⟩) 2 2, .slice (some ⟨d4, 0, none⟩) 1 1, .slice none 0 0, .slice none 0 0, .slice none 0 0, .map (some mg), .slice none 0 0, .slice none 0 0] 124)) (mg + 1) 124 #[.string ⟨#[103]⟩, .slice none 0 0, .slice (some ⟨d3, 0, none⟩) 2 2, .slice (some ⟨d4, 0, none⟩) 1 1, .slice none 0 0, .slice none 0 0, .slice none 0 0, .map (some mg), .slice none 0 0, .slice none 0 0] := by
    have := Blk.new (w1.alloc (.map #[] 0)) 124 #[.string ⟨#[103]⟩, .slice none 0 0, .slice (some ⟨d3, 0, none⟩) 2 2, .slice (some ⟨d4, 0, none⟩) 1 1, .slice none 0 0, .slice none 0 0, .slice none 0 0, .map (some mg), .slice none 0 0, .slice none 0 0]
    simp at this
    rw [hmg]
    rw [hmg] at this
    exact this
  have hK2 : Keeps (· = bc) w ((w1.alloc (.map #[] 0)).alloc (.cells #[.string ⟨#[103]⟩, .slice none 0 0, .slice (some ⟨d3, 0, none⟩) 2 2, .slice (some ⟨d4, 0, none⟩) 1 1, .slice none 0 0, .slice none 0 0, .slice none 0 0, .map (some mg), .slice none 0 0, .slice none 0 0] 124)) := (HK1.out.alloc _).alloc _
  have b2 := (HB0.out.alloc (.map #[] 0)).alloc (.cells #[.string ⟨#[103]⟩, .slice none 0 0, .slice (some ⟨d3, 0, none⟩) 2 2, .slice (some ⟨d4, 0, none⟩) 1 1, .slice none 0 0, .slice none 0 0, .slice none 0 0, .map (some mg), .slice none 0 0, .slice none 0 0] 124)
  have hc2 := (HC1.out.alloc (.map #[] 0)).alloc (.cells #[.string ⟨#[103]⟩, .slice none 0 0, .slice (some ⟨d3, 0, none⟩) 2 2, .slice (some ⟨d4, 0, none⟩) 1 1, .slice none 0 0, .slice none 0 0, .slice none 0 0, .map (some mg), .slice none 0 0, .slice none 0 0] 124)
  obtain ⟨bx, hbx⟩ : ∃ b, b = mg + 1 := ⟨_, rfl⟩
  rw [← hbx] at kx ⊢
  have hbw : w.heap.size < bx := by omega
  clear hbx hmg c0 c1 c2 c3 c4 y0
  generalize ((w1.alloc (.map #[] 0)).alloc (.cells #[.string ⟨#[103]⟩, .slice none 0 0, .slice (some ⟨d3, 0, none⟩) 2 2, .slice (some ⟨d4, 0, none⟩) 1 1, .slice none 0 0, .slice none 0 0, .slice none 0 0, .map (some mg), .slice none 0 0, .slice none 0 0] 124)) = W2 at *
  have c0 := b2.cell 0
  have c1 := b2.cell 1
  have c2 := b2.cell 2
  have c3 := b2.cell 3
  have c4 := b2.cell 4
  have yb := b2.lt
  have yx := kx.lt
  have HB2 := Lib.hid b2
  have HC2 := Lib.hid hc2
  have HK2 := Lib.hid hK2
  have HX2 := Lib.hid kx
  clear b2 hc2 hK2 kx HB0 HC1 HK1
  go_loop [33] (fun i => i = .int .i64 0) (fun _ => 0)
  case atStart => rfl
  subst hrel
  obtain ⟨ob, hmk⟩ := make_bools
  go_wp2_with fail
  have kx3 := HX2.out.alloc ob
  have kb3 := HB2.out.alloc ob
  have kc3 := HC2.out.alloc ob
  have kk3 := HK2.out.alloc ob
  have yb3 := kb3.lt
  have yx3 := kx3.lt
  clear hmk c0 c1 c2 c3 c4 HX2 HB2 HC2 HK2 yb yx
  generalize W2.heap.size = gb at *
  generalize W2.alloc ob = W3 at *
  have HX3 := Lib.hid kx3
  have HB3 := Lib.hid kb3
  have HC3 := Lib.hid kc3
  have HK3 := Lib.hid kk3
  clear kx3 kb3 kc3 kk3
  go_loopw [78] (fun i wr => ∃ (k : Nat) (sv : Value), k ≤ 2 ∧ i = .int .i64 k ∧ Blk wr bx 124 #[.string ⟨#[103]⟩, .slice none 0 0, .slice (some ⟨d3, 0, none⟩) 2 2, .slice (some ⟨d4, 0, none⟩) 1 1, .slice none 0 0, sv, .slice none 0 0, .map (some mg), .slice none 0 0, .slice none 0 0] ∧ Own wr (fun g => W3.heap.size ≤ g) 51 1 sv k (List.replicate k (.slice none 0 0)) ∧ Keeps (fun g => g = bx) W3 wr ∧ (k = 0 → sv = .slice none 0 0)) (fun i _ => 2 - (intOf i).toNat)
  case atStart => exact ⟨0, _, by omega, rfl, HX3.out, Own.nil_ _ _ _ _, Keeps.refl _ _, fun _ => rfl⟩
  obtain ⟨k, sv, hk, rfl, hbx, hown, hkr, hz⟩ := hrel
  have hgr := (HG.out.keeps HK3.out ⟨m1, m2, m3, m4⟩).keeps hkr ⟨by omega, by omega, by omega, by omega⟩
  have hcr := hkr.blk HC3.out (by omega)
  have hbr := hkr.blk HB3.out (by omega)
  by_cases hlt : k < 2
  · have zbr := hbr.lt
    rcases (show k = 0 ∨ k = 1 by omega) with rfl | rfl
    · obtain rfl := hz rfl
      have HN := Lib.hid (node_const wr bc bx d1 d2 d3 d4 mg hcr hbx hgr.k3 hgr.k1)
      have HKR := Lib.hid hkr
      have HBR := Lib.hid hbr
      have HGR := Lib.hid hgr
      clear hcr hbx hgr hown hkr hbr hz
      go_wp2_with fail
      refine HN.out.mono ?_
      rintro e w5 ⟨sv', rfl, hx5, ho5, hk5⟩
      have g5 := HGR.out.keeps hk5 ⟨by omega, by omega, by omega, by omega⟩
      have b5 := hk5.blk HBR.out (by omega)
      have c2 := b5.cell 2
      have n11 := g5.k3.cell 11
      have HX5 := Lib.hid hx5
      have HO5 := Lib.hid ho5
      have HK5 := Lib.hid hk5
      clear g5 b5 hx5 ho5 hk5 HN HBR HGR
      go_wp2_with fail
      go_loop [97] (fun i => i = .int .i64 0) (fun _ => 0)
      case atStart => rfl
      subst hrel
      go_wp2_with fail
      go_roundw
      case rel =>
        refine ⟨1, sv', by omega, rfl, HX5.out, HO5.out.more (fun g _ h => Nat.le_trans HKR.out.size h), HKR.out.tr HK5.out, by omega⟩
      case measure => simp [intOf]
    · obtain ⟨gs, cs, rfl, hcs, -, zgs, ygs⟩ := hown.form (by omega)
      have HN := Lib.hid (node_add wr bc bx d1 d2 d3 d4 mg gs cs hcr hbx ⟨hown.1, fun g e => by simp [Value.ownBlock] at e; exact e.symm⟩ hgr.k3 hgr.k2)
      have HKR := Lib.hid hkr
      have HBR := Lib.hid hbr
      have HGR := Lib.hid hgr
      have zw3 : w.heap.size < W3.heap.size := by omega
      have zgs' : W3.heap.size ≤ gs := ygs
      clear hcr hbx hgr hown hkr hbr hz
      go_wp2_with fail
      refine HN.out.mono ?_
      rintro e w5 ⟨sv', rfl, hx5, ho5, hk5⟩
      have g5 := HGR.out.keeps hk5 ⟨by omega, by omega, by omega, by omega⟩
      have b5 := hk5.blk HBR.out (by omega)
      have c2 := b5.cell 2
      have n11 := g5.k3.cell 23
      have HX5 := Lib.hid hx5
      have HO5 := Lib.hid ho5
      have HK5 := Lib.hid hk5
      clear g5 b5 hx5 ho5 hk5 HN HBR HGR
      go_wp2_with fail
      go_loop [97] (fun i => i = .int .i64 0) (fun _ => 0)
      case atStart => rfl
      subst hrel
      go_wp2_with fail
      go_roundw
      case rel =>
        refine ⟨2, sv', by omega, rfl, HX5.out, HO5.out.more (fun g _ h => ?_), HKR.out.trans HK5.out (fun g hg h => ?_), by omega⟩
        · rcases h with h | h
          · omega
          · exact Nat.le_trans HKR.out.size h
        · rcases h with h | h
          · exact h
          · omega
      case measure => simp [intOf]
  · obtain rfl : k = 2 := by omega
    have HCI := Lib.hid (contains_ints_no wr (· = d4) (some ⟨d4, 0, none⟩) 1 1 [1] (hgr.k4.reads (n := 1) (size := 1) rfl) (by omega) 145 #[.pointer (some ⟨w.heap.size, 0, none⟩)] (fun _ _ => rfl) (fun x hx => by simp at hx; subst hx; exact graph1_no d3 d4 _ wr hbr))
    have c3 := hbr.cell 3
    have HBX := Lib.hid hbx
    have HOW := Lib.hid hown
    have HKR := Lib.hid hkr
    clear hbx hown hkr hgr hcr hbr hz
    go_wp2_with (first
      | (go_at_call 61; refine HCI.out.mono ?_; rintro e w' ⟨rfl, rfl⟩)
      | (go_at_call 146; refine (contains_bool_nil _ _ _ _).mono ?_; rintro e w' ⟨rfl, rfl⟩))
    go_ret2
    exact ⟨bx, sv, mg, rfl, HBX.out, HOW.out.more (fun g _ h => Nat.le_trans HK3.out.size h), by omega, HK3.out.trans HKR.out (fun g hg h => by omega)⟩
end Go.Proofs.YtempdomhbfokmaaGreatDoor

namespace Go.Proofs.YtempdomhbfokmaaGreatDoor
open Go.RowKit

theorem below_begin' {W w1 : World} (h : Below W.drew.heap.size W.drew w1) : Below W.heap.size W w1 := h.drewed
set_option maxRecDepth 100000 in
set_option maxHeartbeats 1000000 in
theorem totals_std (w : World) (d1 d2 d3 d4 : Nat) (hg : GAt w d1 d2 d3 d4) :
    Calls Tryz.prog 107 #[.agg #[.string ⟨#[103]⟩, .slice none 0 0, .slice (some ⟨d3, 0, none⟩) 2 2, .slice (some ⟨d4, 0, none⟩) 1 1, .slice none 0 0]] w fun e w' => e = .returned (.tuple #[.int .i64 2, .int .i64 1]) ∧ Below w.heap.size w w' := by
  have HG := Lib.hid hg
  clear hg
  go_enter Tryz.func107, Tryz.ntmps107
  go_wp2_with fail
  have k0 := Blk.new w 59 #[.string ⟨#[103]⟩, .slice none 0 0, .slice (some ⟨d3, 0, none⟩) 2 2, .slice (some ⟨d4, 0, none⟩) 1 1, .slice none 0 0]
  have hb0 : Below w.heap.size w (w.alloc (.cells #[.string ⟨#[103]⟩, .slice none 0 0, .slice (some ⟨d3, 0, none⟩) 2 2, .slice (some ⟨d4, 0, none⟩) 1 1, .slice none 0 0] 59)) := (Below.refl _ _).alloc (Nat.le_refl _) _
  have g0 := HG.out.alloc_ (.cells #[.string ⟨#[103]⟩, .slice none 0 0, .slice (some ⟨d3, 0, none⟩) 2 2, .slice (some ⟨d4, 0, none⟩) 1 1, .slice none 0 0] 59)
  generalize (w.alloc (.cells #[.string ⟨#[103]⟩, .slice none 0 0, .slice (some ⟨d3, 0, none⟩) 2 2, .slice (some ⟨d4, 0, none⟩) 1 1, .slice none 0 0] 59)) = W at *
  have HK0 := Lib.hid k0
  have HB0 := Lib.hid hb0
  have HG0 := Lib.hid g0
  clear k0 hb0 g0
  go_loopw [3, 16] (fun v i wr => ∃ k : Nat, k ≤ 2 ∧ i = .int .i64 k ∧ v = .int .i64 (if k = 0 then 0 else 1) ∧ Below W.heap.size W wr) (fun _ i _ => 2 - (intOf i).toNat)
  case atStart => exact ⟨0, by omega, rfl, rfl, Below.refl _ _⟩
  obtain ⟨k, hk, rfl, rfl, hbr⟩ := hrel
  by_cases hlt : k < 2
  · have hd := (HG0.out.fresh hbr).k3
    have HBR := Lib.hid hbr
    rcases (show k = 0 ∨ k = 1 by omega) with rfl | rfl
    · have n0 := Blk.cell hd 0; have n1 := Blk.cell hd 1; have n2 := Blk.cell hd 2; have n3 := Blk.cell hd 3; have n4 := Blk.cell hd 4; have n5 := Blk.cell hd 5; have n6 := Blk.cell hd 6; have n7 := Blk.cell hd 7; have n8 := Blk.cell hd 8; have n9 := Blk.cell hd 9; have n10 := Blk.cell hd 10; have n11 := Blk.cell hd 11
      clear hd hbr
      go_wp2_with fail
      go_roundw
      case rel => exact ⟨1, by omega, rfl, rfl, HBR.out.alloc HBR.out.size _⟩
      case measure => simp [intOf]
    · have n0 := Blk.cell hd 12; have n1 := Blk.cell hd 13; have n2 := Blk.cell hd 14; have n3 := Blk.cell hd 15; have n4 := Blk.cell hd 16; have n5 := Blk.cell hd 17; have n6 := Blk.cell hd 18; have n7 := Blk.cell hd 19; have n8 := Blk.cell hd 20; have n9 := Blk.cell hd 21; have n10 := Blk.cell hd 22; have n11 := Blk.cell hd 23
      clear hd hbr
      go_wp2_with fail
      go_roundw
      case rel => exact ⟨2, by omega, rfl, rfl, HBR.out.alloc HBR.out.size _⟩
      case measure => simp [intOf]
  obtain rfl : k = 2 := by omega
  have c4 := (HK0.out.below hbr HK0.out.lt).cell 4
  have HBR := Lib.hid hbr
  clear hbr
  go_wp2_with fail
  go_loop [2, 3, 29] (fun a b i => a = .int .i64 2 ∧ b = .int .i64 1 ∧ i = .int .i64 0) (fun _ _ _ => 0)
  case atStart => exact ⟨rfl, rfl, rfl⟩
  obtain ⟨rfl, rfl, rfl⟩ := hrel
  go_wp2_with fail
  go_ret2
  exact ⟨rfl, HB0.out.trans (HBR.out.mono HB0.out.size)⟩
set_option maxRecDepth 100000 in
set_option maxHeartbeats 1000000 in
theorem unfold_std (w : World) (d1 d2 d3 d4 : Nat) (hg : GAt w d1 d2 d3 d4) :
    Calls Tryz.prog 108 #[.agg #[.string ⟨#[103]⟩, .slice none 0 0, .slice (some ⟨d3, 0, none⟩) 2 2, .slice (some ⟨d4, 0, none⟩) 1 1, .slice none 0 0]] w fun e w' => e = .returned (.int .i64 2) ∧ Below w.heap.size w w' := by
  have HG := Lib.hid hg
  clear hg
  go_enter Tryz.func108, Tryz.ntmps108
  go_wp2_with fail
  have hb0 : Below w.heap.size w (w.alloc (.cells #[.string ⟨#[103]⟩, .slice none 0 0, .slice (some ⟨d3, 0, none⟩) 2 2, .slice (some ⟨d4, 0, none⟩) 1 1, .slice none 0 0] 59)) := (Below.refl _ _).alloc (Nat.le_refl _) _
  have g0 := HG.out.alloc_ (.cells #[.string ⟨#[103]⟩, .slice none 0 0, .slice (some ⟨d3, 0, none⟩) 2 2, .slice (some ⟨d4, 0, none⟩) 1 1, .slice none 0 0] 59)
  generalize (w.alloc (.cells #[.string ⟨#[103]⟩, .slice none 0 0, .slice (some ⟨d3, 0, none⟩) 2 2, .slice (some ⟨d4, 0, none⟩) 1 1, .slice none 0 0] 59)) = W at *
  have HB0 := Lib.hid hb0
  have HG0 := Lib.hid g0
  clear hb0 g0
  go_loopw [3, 14] (fun v i wr => ∃ k : Nat, k ≤ 2 ∧ i = .int .i64 k ∧ v = .int .i64 2 ∧ Below W.heap.size W wr) (fun _ i _ => 2 - (intOf i).toNat)
  case atStart => exact ⟨0, by omega, rfl, rfl, Below.refl _ _⟩
  obtain ⟨k, hk, rfl, rfl, hbr⟩ := hrel
  by_cases hlt : k < 2
  · have hd := (HG0.out.fresh hbr).k3
    have HBR := Lib.hid hbr
    rcases (show k = 0 ∨ k = 1 by omega) with rfl | rfl
    · have n0 := Blk.cell hd 0; have n1 := Blk.cell hd 1; have n2 := Blk.cell hd 2; have n3 := Blk.cell hd 3; have n4 := Blk.cell hd 4; have n5 := Blk.cell hd 5; have n6 := Blk.cell hd 6; have n7 := Blk.cell hd 7; have n8 := Blk.cell hd 8; have n9 := Blk.cell hd 9; have n10 := Blk.cell hd 10; have n11 := Blk.cell hd 11
      clear hd hbr
      go_wp2_with fail
      go_loop [3, 21] (fun v i => v = .int .i64 2 ∧ i = .int .i64 0) (fun _ _ => 0)
      case atStart => exact ⟨rfl, rfl⟩
      obtain ⟨rfl, rfl⟩ := hrel
      go_wp2_with fail
      go_roundw
      case rel => exact ⟨1, by omega, rfl, rfl, HBR.out.alloc HBR.out.size _⟩
      case measure => simp [intOf]
    · have n0 := Blk.cell hd 12; have n1 := Blk.cell hd 13; have n2 := Blk.cell hd 14; have n3 := Blk.cell hd 15; have n4 := Blk.cell hd 16; have n5 := Blk.cell hd 17; have n6 := Blk.cell hd 18; have n7 := Blk.cell hd 19; have n8 := Blk.cell hd 20; have n9 := Blk.cell hd 21; have n10 := Blk.cell hd 22; have n11 := Blk.cell hd 23
      clear hd hbr
      go_wp2_with fail
      go_loop [3, 21] (fun v i => v = .int .i64 2 ∧ i = .int .i64 0) (fun _ _ => 0)
      case atStart => exact ⟨rfl, rfl⟩
      obtain ⟨rfl, rfl⟩ := hrel
      go_wp2_with fail
      go_roundw
      case rel => exact ⟨2, by omega, rfl, rfl, HBR.out.alloc HBR.out.size _⟩
      case measure => simp [intOf]
  obtain rfl : k = 2 := by omega
  have HBR := Lib.hid hbr
  clear hbr
  go_wp2_with fail
  go_ret
  exact ⟨rfl, HB0.out.trans (HBR.out.mono HB0.out.size)⟩
set_option maxRecDepth 100000 in
theorem axisAt_nil (w : World) (A : Option Addr) (c : Nat) (s : ByteArray) : Calls Tryz.prog 196 #[.slice A 0 c, .string s] w fun e w' => e = .returned (.int .i64 (-1)) ∧ Below w.heap.size w w' := by
  have hmf : ∀ (fn : Fn) (first cap : Array Value) (w : World), (Instr.makeFunc fn first cap).run Tryz.prog w = .ok (.func fn first cap) w := fun _ _ _ _ => rfl
  go_enter Tryz.func196, Tryz.ntmps196
  go_wp2_with (go_at_call 240; refine (index_axis_nil _ _ _ _).mono ?_; rintro e w' ⟨rfl, rfl⟩)
  go_ret
  exact ⟨rfl, by go_grown⟩
set_option maxRecDepth 100000 in
set_option maxHeartbeats 1000000 in
theorem effort_const (w : World) (d1 d2 d3 d4 gs cs : Nat) (f : Value) (hg : GAt w d1 d2 d3 d4) (hs : Own w (· = gs) 51 1 (.slice (some ⟨gs, 0, none⟩) 2 cs) 2 [.slice none 0 0, .slice none 0 0]) :
    Calls Tryz.prog 147 #[.agg #[.string ⟨#[103]⟩, .slice none 0 0, .slice (some ⟨d3, 0, none⟩) 2 2, .slice (some ⟨d4, 0, none⟩) 1 1, .slice none 0 0], .slice (some ⟨gs, 0, none⟩) 2 cs, .int .i64 0, f] w fun e w' => e = .returned (.int .i64 0) ∧ Below w.heap.size w w' := by
  have z3 := hg.k3.lt
  have zs := hs.lt (g := gs) rfl
  have s0 := hs.get 0 (by omega)
  have hd := hg.k3
  have n0 := Blk.cell hd 0; have n1 := Blk.cell hd 1; have n2 := Blk.cell hd 2; have n3 := Blk.cell hd 3; have n4 := Blk.cell hd 4; have n5 := Blk.cell hd 5; have n6 := Blk.cell hd 6; have n7 := Blk.cell hd 7; have n8 := Blk.cell hd 8; have n9 := Blk.cell hd 9; have n10 := Blk.cell hd 10; have n11 := Blk.cell hd 11
  simp at s0 n0 n1 n2 n3 n4 n5 n6 n7 n8 n9 n10 n11
  clear hd hg hs
  go_enter Tryz.func147, Tryz.ntmps147
  go_wp2_with (first
    | (go_at_call 114; refine (elements_nil _ _ _).mono ?_; rintro e w' ⟨rfl, rfl⟩))
  go_ret
  exact ⟨rfl, by go_grown⟩
set_option maxRecDepth 100000 in
set_option maxHeartbeats 1000000 in
theorem effort_add (w : World) (d1 d2 d3 d4 gs cs : Nat) (f : Value) (hg : GAt w d1 d2 d3 d4) (hs : Own w (· = gs) 51 1 (.slice (some ⟨gs, 0, none⟩) 2 cs) 2 [.slice none 0 0, .slice none 0 0]) :
    Calls Tryz.prog 147 #[.agg #[.string ⟨#[103]⟩, .slice none 0 0, .slice (some ⟨d3, 0, none⟩) 2 2, .slice (some ⟨d4, 0, none⟩) 1 1, .slice none 0 0], .slice (some ⟨gs, 0, none⟩) 2 cs, .int .i64 1, f] w fun e w' => e = .returned (.int .i64 1) ∧ Below w.heap.size w w' := by
  have z3 := hg.k3.lt
  have z2 := hg.k2.lt
  have zs := hs.lt (g := gs) rfl
  have s0 := hs.get 0 (by omega)
  have s1 := hs.get 1 (by omega)
  have a0 := hg.k2.cell 0
  have hd := hg.k3
  have n0 := Blk.cell hd 12; have n1 := Blk.cell hd 13; have n2 := Blk.cell hd 14; have n3 := Blk.cell hd 15; have n4 := Blk.cell hd 16; have n5 := Blk.cell hd 17; have n6 := Blk.cell hd 18; have n7 := Blk.cell hd 19; have n8 := Blk.cell hd 20; have n9 := Blk.cell hd 21; have n10 := Blk.cell hd 22; have n11 := Blk.cell hd 23
  simp at s0 s1 a0 n0 n1 n2 n3 n4 n5 n6 n7 n8 n9 n10 n11
  clear hd hg hs
  go_enter Tryz.func147, Tryz.ntmps147
  go_wp2_with (first
    | (go_at_call 114; refine (elements_nil _ _ _).mono ?_; rintro e w' ⟨rfl, rfl⟩))
  refine (axisAt_nil _ _ _ _).mono ?_
  rintro e w1 ⟨rfl, hb1⟩
  have hbw : Below w.heap.size w w1 := Below.trans (by go_grown) (hb1.mono (by simp; omega))
  have kn := (Blk.new (w.alloc (.cells #[.string ⟨#[103]⟩, .slice none 0 0, .slice (some ⟨d3, 0, none⟩) 2 2, .slice (some ⟨d4, 0, none⟩) 1 1, .slice none 0 0] 59)) 54 #[.int .i64 4, .slice (some ⟨d2, 0, none⟩) 2 2, .string ⟨#[]⟩, .slice none 0 0, .string ⟨#[]⟩, .slice none 0 0, .int .i64 0, .int .i64 0, .int .i64 0, .int .i64 0, .slice none 0 0, .slice none 0 0]).below hb1 (by simp)
  simp at kn
  have e0 := kn.cell 0
  have HB := Lib.hid hbw
  clear hb1 kn hbw n0 n1 n2 n3 n4 n5 n6 n7 n8 n9 n10 n11 s0 s1 a0
  go_wp2_with fail
  go_ret
  exact ⟨rfl, HB.out⟩
set_option maxRecDepth 100000 in
set_option maxHeartbeats 2000000 in
theorem work_std (w : World) (bx d1 d2 d3 d4 gs cs mg : Nat) (hg : GAt w d1 d2 d3 d4) (hs : Own w (· = gs) 51 1 (.slice (some ⟨gs, 0, none⟩) 2 cs) 2 [.slice none 0 0, .slice none 0 0])
    (hx : Blk w bx 124 #[.string ⟨#[103]⟩, .slice none 0 0, .slice (some ⟨d3, 0, none⟩) 2 2, .slice (some ⟨d4, 0, none⟩) 1 1, .slice none 0 0, .slice (some ⟨gs, 0, none⟩) 2 cs, .slice none 0 0, .map (some mg), .slice none 0 0, .slice none 0 0]) :
    Calls Tryz.prog 109 #[.pointer (some ⟨bx, 0, none⟩)] w fun e w' => e = .returned (.int .i64 1) ∧ Below w.heap.size w w' := by
  have hmf : ∀ (fn : Fn) (first cap : Array Value) (w : World), (Instr.makeFunc fn first cap).run Tryz.prog w = .ok (.func fn first cap) w := fun _ _ _ _ => rfl
  have HG := Lib.hid hg
  have HS := Lib.hid hs
  have HX := Lib.hid hx
  have zx := hx.lt
  clear hg hs hx
  go_enter Tryz.func109, Tryz.ntmps109
  go_upto_region 2 with (fail)
  have k0 := Blk.new w 115 #[.pointer (some ⟨bx, 0, none⟩)]
  have hb0 : Below w.heap.size w (w.alloc (.cells #[.pointer (some ⟨bx, 0, none⟩)] 115)) := (Below.refl _ _).alloc (Nat.le_refl _) _
  generalize (w.alloc (.cells #[.pointer (some ⟨bx, 0, none⟩)] 115)) = W at *
  have HK0 := Lib.hid k0
  have HB0 := Lib.hid hb0
  have p0 := k0.cell 0
  have x2 := (HX.out.below hb0 zx).cell 2
  clear k0 hb0
  go_wp2_with fail
  clear p0 x2
  go_loopw [3, 11] (fun v i wr => ∃ k : Nat, k ≤ 2 ∧ i = .int .i64 k ∧ v = .int .i64 (if k = 2 then 1 else 0) ∧ Below W.heap.size W wr) (fun _ i _ => 2 - (intOf i).toNat)
  case atStart => exact ⟨0, by omega, rfl, rfl, Below.refl _ _⟩
  obtain ⟨k, hk, rfl, rfl, hbr⟩ := hrel
  by_cases hlt : k < 2
  · have hbw : Below w.heap.size w wr := HB0.out.trans (hbr.mono HB0.out.size)
    have g1 := HG.out.fresh hbw
    have s1 := HS.out.fresh hbw
    have x1 := HX.out.below hbw zx
    have k1 := HK0.out.below hbr HK0.out.lt
    have p0 := k1.cell 0
    have x0 := x1.cell 0
    have x1' := x1.cell 1
    have x2 := x1.cell 2
    have x3 := x1.cell 3
    have x4 := x1.cell 4
    have x5 := x1.cell 5
    simp at p0 x0 x1' x2 x3 x4 x5
    have HBR := Lib.hid hbr
    have HG1 := Lib.hid (show GAt wr.drew d1 d2 d3 d4 from g1.fresh ((Below.refl _ _).drew))
    have HS1 := Lib.hid s1.drew
    have zb : w.heap.size < wr.heap.size := k1.lt
    have zx' : bx < wr.heap.size := x1.lt
    clear g1 s1 x1 k1 hbr hbw
    rcases (show k = 0 ∨ k = 1 by omega) with rfl | rfl
    · go_upto_region 5 with (fail)
      go_region_held3 (fun w' => w'.cell? ⟨w.heap.size, 0, none⟩ = some (.pointer (some ⟨bx, 0, none⟩)) ∧ w'.cell? ⟨bx, 0, none⟩ = some (.string ⟨#[103]⟩) ∧ w'.cell? ⟨bx, 1, none⟩ = some (.slice none 0 0) ∧ w'.cell? ⟨bx, 2, none⟩ = some (.slice (some ⟨d3, 0, none⟩) 2 2) ∧ w'.cell? ⟨bx, 3, none⟩ = some (.slice (some ⟨d4, 0, none⟩) 1 1) ∧ w'.cell? ⟨bx, 4, none⟩ = some (.slice none 0 0) ∧ w'.cell? ⟨bx, 5, none⟩ = some (.slice (some ⟨gs, 0, none⟩) 2 cs)) (first | (go_keep; done) | exact ⟨(bc _ _ zb).trans p0, (bc _ _ zx').trans x0, (bc _ _ zx').trans x1', (bc _ _ zx').trans x2, (bc _ _ zx').trans x3, (bc _ _ zx').trans x4, (bc _ _ zx').trans x5⟩)
        (first
          | (go_at_call 147; refine (effort_const _ d1 d2 d3 d4 gs cs _ HG1.out HS1.out).mono ?_; rintro e w5 ⟨rfl, hb5⟩; replace hb5 := below_begin' hb5; have bc := (bcell hb5).1))
      have hb5' : Below wr.heap.size wr w5 := hb5
      go_wp2_with fail
      go_roundw
      case rel => exact ⟨1, by omega, rfl, rfl, HBR.out.trans (hb5'.mono HBR.out.size)⟩
      case measure => simp [intOf]
    · go_upto_region 5 with (fail)
      go_region_held3 (fun w' => w'.cell? ⟨w.heap.size, 0, none⟩ = some (.pointer (some ⟨bx, 0, none⟩)) ∧ w'.cell? ⟨bx, 0, none⟩ = some (.string ⟨#[103]⟩) ∧ w'.cell? ⟨bx, 1, none⟩ = some (.slice none 0 0) ∧ w'.cell? ⟨bx, 2, none⟩ = some (.slice (some ⟨d3, 0, none⟩) 2 2) ∧ w'.cell? ⟨bx, 3, none⟩ = some (.slice (some ⟨d4, 0, none⟩) 1 1) ∧ w'.cell? ⟨bx, 4, none⟩ = some (.slice none 0 0) ∧ w'.cell? ⟨bx, 5, none⟩ = some (.slice (some ⟨gs, 0, none⟩) 2 cs)) (first | (go_keep; done) | exact ⟨(bc _ _ zb).trans p0, (bc _ _ zx').trans x0, (bc _ _ zx').trans x1', (bc _ _ zx').trans x2, (bc _ _ zx').trans x3, (bc _ _ zx').trans x4, (bc _ _ zx').trans x5⟩)
        (first
          | (go_at_call 147; refine (effort_add _ d1 d2 d3 d4 gs cs _ HG1.out HS1.out).mono ?_; rintro e w5 ⟨rfl, hb5⟩; replace hb5 := below_begin' hb5; have bc := (bcell hb5).1))
      have hb5' : Below wr.heap.size wr w5 := hb5
      go_wp2_with fail
      go_roundw
      case rel => exact ⟨2, by omega, rfl, rfl, HBR.out.trans (hb5'.mono HBR.out.size)⟩
      case measure => simp [intOf]
  obtain rfl : k = 2 := by omega
  have HBR := Lib.hid hbr
  clear hbr
  go_wp2_with fail
  go_ret
  exact ⟨rfl, HB0.out.trans (HBR.out.mono HB0.out.size)⟩
set_option maxRecDepth 100000 in
set_option maxHeartbeats 2000000 in
theorem analyze_std (w : World) (d1 d2 d3 d4 : Nat) (hg : GAt w d1 d2 d3 d4) :
    Calls Tryz.prog 80 #[.agg #[.string ⟨#[103]⟩, .slice none 0 0, .slice (some ⟨d3, 0, none⟩) 2 2, .slice (some ⟨d4, 0, none⟩) 1 1, .slice none 0 0]] w fun e w' => ∃ bx gs cs mg, e = .returned (.tuple #[.pointer (some ⟨bx, 0, none⟩), .int .i64 0]) ∧ Blk w' bx 124 #[.string ⟨#[103]⟩, .slice none 0 0, .slice (some ⟨d3, 0, none⟩) 2 2, .slice (some ⟨d4, 0, none⟩) 1 1, .slice none 0 0, .slice (some ⟨gs, 0, none⟩) 2 cs, .slice none 0 0, .map (some mg), .slice none 0 0, .slice none 0 0] ∧
      Own w' (· = gs) 51 1 (.slice (some ⟨gs, 0, none⟩) 2 cs) 2 [.slice none 0 0, .slice none 0 0] ∧ w.heap.size ≤ bx ∧ w.heap.size ≤ gs ∧ Below w.heap.size w w' := by
  have HG := Lib.hid hg
  clear hg
  go_enter Tryz.func80, Tryz.ntmps80
  go_wp2_with fail
  have k0 := (Blk.new w 59 #[.string ⟨#[103]⟩, .slice none 0 0, .slice (some ⟨d3, 0, none⟩) 2 2, .slice (some ⟨d4, 0, none⟩) 1 1, .slice none 0 0]).alloc (.cells #[.slice none 0 0] 154)
  have kc := Blk.new (w.alloc (.cells #[.string ⟨#[103]⟩, .slice none 0 0, .slice (some ⟨d3, 0, none⟩) 2 2, .slice (some ⟨d4, 0, none⟩) 1 1, .slice none 0 0] 59)) 154 #[.slice none 0 0]
  simp at kc
  have hb0 : Below w.heap.size w ((w.alloc (.cells #[.string ⟨#[103]⟩, .slice none 0 0, .slice (some ⟨d3, 0, none⟩) 2 2, .slice (some ⟨d4, 0, none⟩) 1 1, .slice none 0 0] 59)).alloc (.cells #[.slice none 0 0] 154)) := by go_grown
  have g0 := (HG.out.alloc_ (.cells #[.string ⟨#[103]⟩, .slice none 0 0, .slice (some ⟨d3, 0, none⟩) 2 2, .slice (some ⟨d4, 0, none⟩) 1 1, .slice none 0 0] 59)).alloc_ (.cells #[.slice none 0 0] 154)
  generalize ((w.alloc (.cells #[.string ⟨#[103]⟩, .slice none 0 0, .slice (some ⟨d3, 0, none⟩) 2 2, .slice (some ⟨d4, 0, none⟩) 1 1, .slice none 0 0] 59)).alloc (.cells #[.slice none 0 0] 154)) = W at *
  have HGS := Lib.hid (graph_std W _ d1 d2 d3 d4 kc g0)
  have HK0 := Lib.hid k0
  have HB0 := Lib.hid hb0
  have HG0 := Lib.hid g0
  have HKC := Lib.hid kc
  clear k0 kc hb0 g0
  refine HGS.out.mono ?_
  rintro e w2 ⟨bx, sv, mg, rfl, hx2, ho2, hbx, hk2⟩
  have hb2 : Below w.heap.size w w2 := by
    have h1 := HB0.out
    exact ⟨hk2.os.trans h1.os, hk2.tape.trans h1.tape, hk2.output.trans h1.output, Nat.le_trans h1.size hk2.size, fun i hi => (hk2.block i (Nat.lt_of_lt_of_le hi h1.size) (by show ¬ i = w.heap.size + 1; omega)).trans (h1.block i hi)⟩
  obtain ⟨gs, cs, rfl, hcs, -, zgs, ygs⟩ := ho2.form (by omega)
  have ho3 : Own w2 (· = gs) 51 1 (.slice (some ⟨gs, 0, none⟩) 2 cs) 2 [.slice none 0 0, .slice none 0 0] := ⟨ho2.1, fun g e => by simp [Value.ownBlock] at e; exact e.symm⟩
  have k2 := hk2.blk HK0.out (by show ¬ w.heap.size = w.heap.size + 1; omega)
  have g2 := HG.out.fresh hb2
  have yg : w.heap.size ≤ gs := Nat.le_trans HB0.out.size ygs
  have yx : w.heap.size ≤ bx := Nat.le_trans HB0.out.size hbx
  have HX2 := Lib.hid hx2
  have HO2 := Lib.hid ho3
  have HB2 := Lib.hid hb2
  have HG2 := Lib.hid g2
  have c0 := k2.cell 0
  have c1 := k2.cell 1
  have c2 := k2.cell 2
  have c3 := k2.cell 3
  have c4 := k2.cell 4
  have HK2 := Lib.hid k2
  have HT := Lib.hid (totals_std w2 d1 d2 d3 d4 g2)
  clear HGS HK0 HB0 HG0 HKC hx2 ho2 ho3 hk2 hb2 g2 k2
  go_wp2_with fail
  refine HT.out.mono ?_
  rintro e w3 ⟨rfl, hb3⟩
  have k3 := HK2.out.below hb3 HK2.out.lt
  have HX3 := Lib.hid (HX2.out.below hb3 HX2.out.lt)
  have HO3 := Lib.hid (HO2.out.fresh hb3)
  have HB3 := Lib.hid (HB2.out.trans (hb3.mono HB2.out.size))
  have HG3 := Lib.hid (HG2.out.fresh hb3)
  have HU := Lib.hid (unfold_std w3 d1 d2 d3 d4 HG3.out)
  clear c0 c1 c2 c3 c4 hb3 HT
  have c0 := k3.cell 0
  have c1 := k3.cell 1
  have c2 := k3.cell 2
  have c3 := k3.cell 3
  have c4 := k3.cell 4
  clear k3 HX2 HO2 HB2 HG2 HK2
  go_wp2_with fail
  refine HU.out.mono ?_
  rintro e w4 ⟨rfl, hb4⟩
  have HX4 := Lib.hid (HX3.out.below hb4 HX3.out.lt)
  have HO4 := Lib.hid (HO3.out.fresh hb4)
  have HB4 := Lib.hid (HB3.out.trans (hb4.mono HB3.out.size))
  have HG4 := Lib.hid (HG3.out.fresh hb4)
  have HW := Lib.hid (work_std w4 bx d1 d2 d3 d4 gs cs mg HG4.out HO4.out HX4.out)
  clear c0 c1 c2 c3 c4 hb4 HU HX3 HO3 HB3 HG3
  go_wp2_with fail
  refine HW.out.mono ?_
  rintro e w5 ⟨rfl, hb5⟩
  have HX5 := Lib.hid (HX4.out.below hb5 HX4.out.lt)
  have HO5 := Lib.hid (HO4.out.fresh hb5)
  have HB5 := Lib.hid (HB4.out.trans (hb5.mono HB4.out.size))
  clear hb5 HW HX4 HO4 HB4 HG4
  go_wp2_with fail
  go_ret2
  exact ⟨bx, gs, cs, mg, rfl, HX5.out, HO5.out, yx, yg, HB5.out⟩
end Go.Proofs.YtempdomhbfokmaaGreatDoor

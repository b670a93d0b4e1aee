/- stands(): the checker's node. stands(): the checker's node at the second node. -/
import Derived.Test.YtempdomhbfokmaaGreatDoorMz31
import Derived.Deep.RegionHeld3
namespace Go.Proofs.YtempdomhbfokmaaGreatDoor
open Go.RowKit

/-- what the call of node holds of its own -/
structure NS (W : World) (b0 b1 b2 b3 b4 bc bx : Nat) (i : Int) (nd rl : Array Value) : Prop where
  k0 : Blk W b0 152 #[.pointer (some ⟨bc, 0, none⟩)]
  k1 : Blk W b1 115 #[.pointer (some ⟨bx, 0, none⟩)]
  k2 : Blk W b2 3 #[.int .i64 i]
  k3 : Blk W b3 54 nd
  k4 : Blk W b4 228 rl
  kc : Blk W bc 154 #[.slice none 0 0]
theorem NS.fresh {W W' : World} {b0 b1 b2 b3 b4 bc bx : Nat} {i : Int} {nd rl : Array Value} (h : NS W b0 b1 b2 b3 b4 bc bx i nd rl) (hb : Below W.heap.size W W') : NS W' b0 b1 b2 b3 b4 bc bx i nd rl :=
  ⟨h.k0.below hb h.k0.lt, h.k1.below hb h.k1.lt, h.k2.below hb h.k2.lt, h.k3.below hb h.k3.lt, h.k4.below hb h.k4.lt, h.kc.below hb h.kc.lt⟩
theorem Blk.reads {w : World} {g n size : Nat} {t : TypeId} {cs : Array Value} (h : Blk w g t cs) (hn : cs.toList.length = n * size) : Reads w (· = g) size (some ⟨g, 0, none⟩) n cs.toList :=
  ⟨hn, fun _ => ⟨_, rfl, h.lt, rfl, fun j u hu => by rw [Addr.add_lit, h.cell]; simpa using hu⟩⟩
set_option maxRecDepth 100000 in
set_option maxHeartbeats 4000000 in
theorem node_const (w : World) (bc bx d1 d2 d3 d4 mg : Nat) (hc : Blk w bc 154 #[.slice none 0 0]) (hx : Blk w bx 124 #[.string ⟨#[103]⟩, .slice none 0 0, .slice (some ⟨d3, 0, none⟩) 2 2, .slice (some ⟨d4, 0, none⟩) 1 1, .slice none 0 0, .slice none 0 0, .slice none 0 0, .map (some mg), .slice none 0 0, .slice none 0 0])
    (hd3 : Blk w d3 54 #[.int .i64 2, .slice none 0 0, .string ⟨#[]⟩, .slice none 0 0, .string ⟨#[]⟩, .slice none 0 0, .int .i64 0, .int .i64 0, .int .i64 0, .int .i64 0, .slice (some ⟨d1, 0, none⟩) 1 1, .slice none 0 0, .int .i64 4, .slice (some ⟨d2, 0, none⟩) 2 2, .string ⟨#[]⟩, .slice none 0 0, .string ⟨#[]⟩, .slice none 0 0, .int .i64 0, .int .i64 0, .int .i64 0, .int .i64 0, .slice none 0 0, .slice none 0 0]) (hd1 : Blk w d1 3 #[.int .i64 3]) :
    Calls Tryz.prog 144 #[.pointer (some ⟨bc, 0, none⟩), .pointer (some ⟨bx, 0, none⟩), .int .i64 0, .bool false] w fun e w' => ∃ sv', e = .returned (.int .i64 0) ∧ Blk w' bx 124 #[.string ⟨#[103]⟩, .slice none 0 0, .slice (some ⟨d3, 0, none⟩) 2 2, .slice (some ⟨d4, 0, none⟩) 1 1, .slice none 0 0, sv', .slice none 0 0, .map (some mg), .slice none 0 0, .slice none 0 0] ∧
      Own w' (fun g => w.heap.size ≤ g) 51 1 sv' 1 [.slice none 0 0] ∧ Keeps (fun g => g = bx) w w' := by
  have hmf : ∀ (fn : Fn) (first cap : Array Value) (w : World), (Instr.makeFunc fn first cap).run Tryz.prog w = .ok (.func fn first cap) w := fun _ _ _ _ => rfl
  have HX := Lib.hid hx
  have HC := Lib.hid hc
  have HD1 := Lib.hid hd1
  have HD3 := Lib.hid hd3
  have zx := hx.lt
  have zc := hc.lt
  have z3 := hd3.lt
  have z1 := hd1.lt
  clear hx hc hd3 hd1
  go_enter Tryz.func144, Tryz.ntmps144
  go_upto_region 1 with (fail)
  obtain ⟨k0, k1, k2, hbW⟩ := blk_three w 152 115 3 #[.pointer (some ⟨bc, 0, none⟩)] #[.pointer (some ⟨bx, 0, none⟩)] #[.int .i64 0]
  generalize ((w.alloc (.cells #[.pointer (some ⟨bc, 0, none⟩)] 152)).alloc (.cells #[.pointer (some ⟨bx, 0, none⟩)] 115)).alloc (.cells #[.int .i64 0] 3) = W at *
  have kx := HX.out.below hbW zx
  have kd := HD3.out.below hbW z3
  have y0 := k0.lt
  have y1 := k1.lt
  have y2 := k2.lt
  have zW := hbW.size
  have zx' : bx < W.heap.size := by omega
  have z3' : d3 < W.heap.size := by omega
  have zc' : bc < W.heap.size := by omega
  have z1' : d1 < W.heap.size := by omega
  have p1 := k1.cell 0
  have p2 := k2.cell 0
  have x2 := kx.cell 2
  have n0 := Blk.cell kd 0; have n1 := Blk.cell kd 1; have n2 := Blk.cell kd 2; have n3 := Blk.cell kd 3; have n4 := Blk.cell kd 4; have n5 := Blk.cell kd 5; have n6 := Blk.cell kd 6; have n7 := Blk.cell kd 7; have n8 := Blk.cell kd 8; have n9 := Blk.cell kd 9; have n10 := Blk.cell kd 10; have n11 := Blk.cell kd 11
  simp at p1 p2 x2 n0 n1 n2 n3 n4 n5 n6 n7 n8 n9 n10 n11
  have K0 := Lib.hid k0
  have K1 := Lib.hid k1
  have K2 := Lib.hid k2
  have HBW := Lib.hid hbW
  clear k0 k1 k2 kx kd hbW
  go_region
  have q3 : Blk ((W.alloc (.cells #[.int .i64 2, .slice none 0 0, .string ⟨#[]⟩, .slice none 0 0, .string ⟨#[]⟩, .slice none 0 0, .int .i64 0, .int .i64 0, .int .i64 0, .int .i64 0, .slice (some ⟨d1, 0, none⟩) 1 1, .slice none 0 0] 54)).drew) W.heap.size 54 #[.int .i64 2, .slice none 0 0, .string ⟨#[]⟩, .slice none 0 0, .string ⟨#[]⟩, .slice none 0 0, .int .i64 0, .int .i64 0, .int .i64 0, .int .i64 0, .slice (some ⟨d1, 0, none⟩) 1 1, .slice none 0 0] := (Blk.new W _ _).drew
  have hb2 : Below W.heap.size W ((W.alloc (.cells #[.int .i64 2, .slice none 0 0, .string ⟨#[]⟩, .slice none 0 0, .string ⟨#[]⟩, .slice none 0 0, .int .i64 0, .int .i64 0, .int .i64 0, .int .i64 0, .slice (some ⟨d1, 0, none⟩) 1 1, .slice none 0 0] 54)).drew) := ((Below.refl _ _).alloc (Nat.le_refl _) _).drew
  generalize ((W.alloc (.cells #[.int .i64 2, .slice none 0 0, .string ⟨#[]⟩, .slice none 0 0, .string ⟨#[]⟩, .slice none 0 0, .int .i64 0, .int .i64 0, .int .i64 0, .int .i64 0, .slice (some ⟨d1, 0, none⟩) 1 1, .slice none 0 0] 54)).drew) = W2 at *
  clear n0 n1 n2 n3 n4 n5 n6 n7 n8 n9 n10 n11 x2 p1 p2
  have m0 := q3.cell 0
  go_wp2_with fail
  refine (ruleOf_const _).mono ?_
  rintro e w3 ⟨rfl, hb3⟩
  obtain ⟨bn, hbn⟩ : ∃ b, b = W.heap.size := ⟨_, rfl⟩
  rw [← hbn] at q3 ⊢
  have zW2 := hb2.size
  have zw3 := hb3.size
  have z4 := q3.lt
  have hns : NS (w3.alloc (.cells #[.int .i64 258, .int .i64 0, .bool false, .int .i64 (-1), .int .i64 0, .int .i64 0, .string ⟨#[99, 111, 110, 115, 116]⟩] 228)) w.heap.size (w.heap.size + 1) (w.heap.size + 1 + 1) bn w3.heap.size bc bx 0 #[.int .i64 2, .slice none 0 0, .string ⟨#[]⟩, .slice none 0 0, .string ⟨#[]⟩, .slice none 0 0, .int .i64 0, .int .i64 0, .int .i64 0, .int .i64 0, .slice (some ⟨d1, 0, none⟩) 1 1, .slice none 0 0] #[.int .i64 258, .int .i64 0, .bool false, .int .i64 (-1), .int .i64 0, .int .i64 0, .string ⟨#[99, 111, 110, 115, 116]⟩] :=
    ⟨((K0.out.below hb2 y0).below hb3 (by omega)).alloc _, ((K1.out.below hb2 y1).below hb3 (by omega)).alloc _, ((K2.out.below hb2 y2).below hb3 (by omega)).alloc _, (q3.below hb3 z4).alloc _, Blk.new _ _ _, (((HC.out.below HBW.out zc).below hb2 zc').below hb3 (by omega)).alloc _⟩
  have hbw : Below w.heap.size w (w3.alloc (.cells #[.int .i64 258, .int .i64 0, .bool false, .int .i64 (-1), .int .i64 0, .int .i64 0, .string ⟨#[99, 111, 110, 115, 116]⟩] 228)) :=
    ((HBW.out.trans (hb2.mono zW)).trans (hb3.mono (by omega))).alloc (by omega) _
  have HNS := Lib.hid hns
  have HBw := Lib.hid hbw
  have z5 : w.heap.size ≤ w3.heap.size := by omega
  clear hns hbw hb2 hb3 q3 K0 K1 K2 HBW y0 y1 y2 zx' z3' zc' z1' zW2 zw3 z4 zW m0 hbn
  go_upto_region 5 with (fail)
  obtain ⟨br, hbr⟩ : ∃ b, b = w3.heap.size := ⟨_, rfl⟩
  rw [← hbr] at HNS ⊢
  clear hbr z5
  generalize (w3.alloc (.cells #[.int .i64 258, .int .i64 0, .bool false, .int .i64 (-1), .int .i64 0, .int .i64 0, .string ⟨#[99, 111, 110, 115, 116]⟩] 228)) = W4 at *
  have n0 := Blk.cell HNS.out.k3 0; have n1 := Blk.cell HNS.out.k3 1; have n2 := Blk.cell HNS.out.k3 2; have n3 := Blk.cell HNS.out.k3 3; have n4 := Blk.cell HNS.out.k3 4; have n5 := Blk.cell HNS.out.k3 5; have n6 := Blk.cell HNS.out.k3 6; have n7 := Blk.cell HNS.out.k3 7; have n8 := Blk.cell HNS.out.k3 8; have n9 := Blk.cell HNS.out.k3 9; have n10 := Blk.cell HNS.out.k3 10; have n11 := Blk.cell HNS.out.k3 11
  have r0 := Blk.cell HNS.out.k4 0; have r1 := Blk.cell HNS.out.k4 1; have r2 := Blk.cell HNS.out.k4 2; have r3 := Blk.cell HNS.out.k4 3; have r4 := Blk.cell HNS.out.k4 4; have r5 := Blk.cell HNS.out.k4 5; have r6 := Blk.cell HNS.out.k4 6
  go_upto_region 7 with (first
    | (go_at_call 185; refine (formed_const _ _).mono ?_; rintro e w5 ⟨rfl, hb5⟩; have HN5 := Lib.hid (HNS.out.fresh hb5); have HB5 := Lib.hid (HBw.out.trans (hb5.mono HBw.out.size)); clear n0 n1 n2 n3 n4 n5 n6 n7 n8 n9 n10 n11 r0 r1 r2 r3 r4 r5 r6 hb5; have n0 := Blk.cell HN5.out.k3 0; have n1 := Blk.cell HN5.out.k3 1; have n2 := Blk.cell HN5.out.k3 2; have n3 := Blk.cell HN5.out.k3 3; have n4 := Blk.cell HN5.out.k3 4; have n5 := Blk.cell HN5.out.k3 5; have n6 := Blk.cell HN5.out.k3 6; have n7 := Blk.cell HN5.out.k3 7; have n8 := Blk.cell HN5.out.k3 8; have n9 := Blk.cell HN5.out.k3 9; have n10 := Blk.cell HN5.out.k3 10; have n11 := Blk.cell HN5.out.k3 11; have r0 := Blk.cell HN5.out.k4 0; have r1 := Blk.cell HN5.out.k4 1; have r2 := Blk.cell HN5.out.k4 2; have r3 := Blk.cell HN5.out.k4 3; have r4 := Blk.cell HN5.out.k4 4; have r5 := Blk.cell HN5.out.k4 5; have r6 := Blk.cell HN5.out.k4 6; have c0 := HN5.out.kc.cell 0; have c1 := HN5.out.k0.cell 0; simp at c0 c1))
  have HCI : Hid (∀ (W : World) (caps : Array Value), Calls Tryz.prog 61 #[.slice none 0 0, .func (.func 186) #[] caps] W fun e w' => e = .returned (.bool false) ∧ W = w') := Lib.hid fun W caps =>
    contains_ints_no W (fun _ => True) none 0 0 [] Reads.none_ (by omega) 186 caps (fun _ _ => rfl) (by intro x hx; cases hx)
  have HCJ : Hid (∀ (W : World) (caps : Array Value), Calls Tryz.prog 61 #[.slice none 0 0, .func (.func 187) #[] caps] W fun e w' => e = .returned (.bool false) ∧ W = w') := Lib.hid fun W caps =>
    contains_ints_no W (fun _ => True) none 0 0 [] Reads.none_ (by omega) 187 caps (fun _ _ => rfl) (by intro x hx; cases hx)
  go_wp2_with fail
  refine (HCI.out _ _).mono ?_
  rintro e w' ⟨rfl, rfl⟩
  go_wp2_with fail
  refine (HCJ.out _ _).mono ?_
  rintro e w' ⟨rfl, rfl⟩
  go_upto_region 11 with (fail)
  go_still_tail 6, (by kernel_rfl)
  change wpList _ _ _ _ _ w5.drew
  have HN6 := Lib.hid (HN5.out.fresh ((Below.refl w5.heap.size w5).drew))
  have HB6 := Lib.hid HB5.out.drew
  clear n0 n1 n2 n3 n4 n5 n6 n7 n8 n9 n10 n11 r0 r1 r2 r3 r4 r5 r6 c0 c1
  generalize w5.drew = w6 at *
  go_wp2_with fail
  refine (named_const _ _ _ _ _).mono ?_
  rintro e w7 ⟨rfl, hb7⟩
  have HN7 := Lib.hid (HN6.out.fresh hb7)
  have HB7 := Lib.hid (HB6.out.trans (hb7.mono HB6.out.size))
  clear HNS HN5 HB5 HN6 HB6 hb7
  have n1 := HN7.out.k3.cell 1
  go_wp2_with fail
  go_loop [60, 12] (fun i v => i = .int .i64 0 ∧ v = .slice none 0 0) (fun _ _ => 0)
  case atStart => exact ⟨rfl, rfl⟩
  obtain ⟨rfl, rfl⟩ := hrel
  clear n1
  go_upto_region 22 with (fail)
  refine node_r22 w7 bn 2 _ _ _ _ _ _ _ _ _ _ _ (by decide) HN7.out.k3 (fun W => twice_const W _) _ ?_
  intro w9 y82 y83 y84 y85 y86 y87 y88 y89 y90 y91 y92 y93 y94 y95 y96 y97 y98 hb9
  have HN9 := Lib.hid (HN7.out.fresh hb9)
  have HB9 := Lib.hid (HB7.out.trans (hb9.mono HB7.out.size))
  clear HN7 HB7 hb9
  have n0 := Blk.cell HN9.out.k3 0; have n1 := Blk.cell HN9.out.k3 1; have n2 := Blk.cell HN9.out.k3 2; have n3 := Blk.cell HN9.out.k3 3; have n4 := Blk.cell HN9.out.k3 4; have n5 := Blk.cell HN9.out.k3 5; have n6 := Blk.cell HN9.out.k3 6; have n7 := Blk.cell HN9.out.k3 7; have n8 := Blk.cell HN9.out.k3 8; have n9 := Blk.cell HN9.out.k3 9; have n10 := Blk.cell HN9.out.k3 10; have n11 := Blk.cell HN9.out.k3 11
  go_wp2_with fail
  have hd9 := HD1.out.below HB9.out z1
  have hx9 := HX.out.below HB9.out zx
  refine (ranged_const _ (· = d1) _ _ (hd9.reads (n := 1) (size := 1) rfl)).mono ?_
  rintro e w10 ⟨rfl, hb10⟩
  have HN10 := Lib.hid (HN9.out.fresh hb10)
  have HB10 := Lib.hid (HB9.out.trans (hb10.mono HB9.out.size))
  have HX10 := Lib.hid (hx9.below hb10 hx9.lt)
  clear n0 n1 n2 n3 n4 n5 n6 n7 n8 n9 n10 n11 hd9 hx9 HN9 HB9 hb10
  have n0 := Blk.cell HN10.out.k3 0; have n1 := Blk.cell HN10.out.k3 1; have n2 := Blk.cell HN10.out.k3 2; have n3 := Blk.cell HN10.out.k3 3; have n4 := Blk.cell HN10.out.k3 4; have n5 := Blk.cell HN10.out.k3 5; have n6 := Blk.cell HN10.out.k3 6; have n7 := Blk.cell HN10.out.k3 7; have n8 := Blk.cell HN10.out.k3 8; have n9 := Blk.cell HN10.out.k3 9; have n10 := Blk.cell HN10.out.k3 10; have n11 := Blk.cell HN10.out.k3 11
  have q0 := HN10.out.k0.cell 0
  have q1 := HN10.out.k1.cell 0
  have q2 := HN10.out.k2.cell 0
  go_wp2_with (go_at_call 191; refine (contains_axis_nil _ _ _ _).mono ?_; rintro e w' ⟨rfl, rfl⟩)
  refine (cshape_const w10 (fun _ => False) bc bx d1 d3 d4 mg 0 (.slice none 0 0) 0 HN10.out.kc HX10.out (Own.nil_ _ _ _ _) (by omega) ⟨id, id⟩).mono ?_
  rintro e w11 ⟨sv', rfl, hbx, hown, hk⟩
  have HK11 := Lib.hid (hk.mono (S' := fun g => g = bx) (fun i _ h => by rcases h with h | h; exact h; simp [Value.ownBlock] at h))
  have HX11 := Lib.hid hbx
  have HO11 := Lib.hid hown
  clear hk hbx hown n0 n1 n2 n3 n4 n5 n6 n7 n8 n9 n10 n11 q0 q1 q2
  go_wp2_with fail
  go_ret
  exact ⟨sv', rfl, HX11.out, HO11.out.more (fun g _ h => by rcases h with h | h; exact h.elim; exact Nat.le_trans HB10.out.size h), ((Keeps.refl (fun g => g = bx) w).fresh HB10.out).trans HK11.out (fun _ _ h => h)⟩
end Go.Proofs.YtempdomhbfokmaaGreatDoor

namespace Go.Proofs.YtempdomhbfokmaaGreatDoor
open Go.RowKit

set_option maxRecDepth 100000 in
theorem node1_no (x i : Int) (b : Nat) (w : World) (h0 : 0 ≤ x) (h1 : x < i) (hc : w.cell? ⟨b, 0, none⟩ = some (.int .i64 i)) : Calls Tryz.prog 186 (#[.int .i64 x] ++ #[.pointer (some ⟨b, 0, none⟩)]) w fun e w' => e = .returned (.bool false) ∧ w = w' := by
  have e1 : decide (x < 0) = false := by simp; omega
  have e2 : decide (i ≤ x) = false := by simp; omega
  show Calls Tryz.prog 186 #[.int .i64 x, .pointer (some ⟨b, 0, none⟩)] w _
  go_enter Tryz.func186, Tryz.ntmps186
  go_wp2_with fail
  go_ret
  exact ⟨rfl, rfl⟩
set_option maxRecDepth 100000 in
set_option maxHeartbeats 4000000 in
theorem node_add (w : World) (bc bx d1 d2 d3 d4 mg gs cs : Nat) (hc : Blk w bc 154 #[.slice none 0 0]) (hx : Blk w bx 124 #[.string ⟨#[103]⟩, .slice none 0 0, .slice (some ⟨d3, 0, none⟩) 2 2, .slice (some ⟨d4, 0, none⟩) 1 1, .slice none 0 0, .slice (some ⟨gs, 0, none⟩) 1 cs, .slice none 0 0, .map (some mg), .slice none 0 0, .slice none 0 0]) (hsv : Own w (· = gs) 51 1 (.slice (some ⟨gs, 0, none⟩) 1 cs) 1 [.slice none 0 0])
    (hd3 : Blk w d3 54 #[.int .i64 2, .slice none 0 0, .string ⟨#[]⟩, .slice none 0 0, .string ⟨#[]⟩, .slice none 0 0, .int .i64 0, .int .i64 0, .int .i64 0, .int .i64 0, .slice (some ⟨d1, 0, none⟩) 1 1, .slice none 0 0, .int .i64 4, .slice (some ⟨d2, 0, none⟩) 2 2, .string ⟨#[]⟩, .slice none 0 0, .string ⟨#[]⟩, .slice none 0 0, .int .i64 0, .int .i64 0, .int .i64 0, .int .i64 0, .slice none 0 0, .slice none 0 0]) (hd2 : Blk w d2 3 #[.int .i64 0, .int .i64 0]) :
    Calls Tryz.prog 144 #[.pointer (some ⟨bc, 0, none⟩), .pointer (some ⟨bx, 0, none⟩), .int .i64 1, .bool false] w fun e w' => ∃ sv', e = .returned (.int .i64 0) ∧ Blk w' bx 124 #[.string ⟨#[103]⟩, .slice none 0 0, .slice (some ⟨d3, 0, none⟩) 2 2, .slice (some ⟨d4, 0, none⟩) 1 1, .slice none 0 0, sv', .slice none 0 0, .map (some mg), .slice none 0 0, .slice none 0 0] ∧
      Own w' (fun g => g = gs ∨ w.heap.size ≤ g) 51 1 sv' 2 [.slice none 0 0, .slice none 0 0] ∧ Keeps (fun g => g = bx ∨ g = gs) w w' := by
  have hmf : ∀ (fn : Fn) (first cap : Array Value) (w : World), (Instr.makeFunc fn first cap).run Tryz.prog w = .ok (.func fn first cap) w := fun _ _ _ _ => rfl
  have HX := Lib.hid hx
  have HC := Lib.hid hc
  have HD2 := Lib.hid hd2
  have HSV := Lib.hid hsv
  have zs := hsv.lt (g := gs) rfl
  have HD3 := Lib.hid hd3
  have zx := hx.lt
  have zc := hc.lt
  have z3 := hd3.lt
  have z1 := hd2.lt
  clear hx hc hd3 hd2 hsv
  go_enter Tryz.func144, Tryz.ntmps144
  go_upto_region 1 with (fail)
  obtain ⟨k0, k1, k2, hbW⟩ := blk_three w 152 115 3 #[.pointer (some ⟨bc, 0, none⟩)] #[.pointer (some ⟨bx, 0, none⟩)] #[.int .i64 1]
  generalize ((w.alloc (.cells #[.pointer (some ⟨bc, 0, none⟩)] 152)).alloc (.cells #[.pointer (some ⟨bx, 0, none⟩)] 115)).alloc (.cells #[.int .i64 1] 3) = W at *
  have kx := HX.out.below hbW zx
  have kd := HD3.out.below hbW z3
  have y0 := k0.lt
  have y1 := k1.lt
  have y2 := k2.lt
  have zW := hbW.size
  have zx' : bx < W.heap.size := by omega
  have z3' : d3 < W.heap.size := by omega
  have zc' : bc < W.heap.size := by omega
  have z1' : d2 < W.heap.size := by omega
  have p1 := k1.cell 0
  have p2 := k2.cell 0
  have x2 := kx.cell 2
  have n0 := Blk.cell kd 12; have n1 := Blk.cell kd 13; have n2 := Blk.cell kd 14; have n3 := Blk.cell kd 15; have n4 := Blk.cell kd 16; have n5 := Blk.cell kd 17; have n6 := Blk.cell kd 18; have n7 := Blk.cell kd 19; have n8 := Blk.cell kd 20; have n9 := Blk.cell kd 21; have n10 := Blk.cell kd 22; have n11 := Blk.cell kd 23
  simp at p1 p2 x2 n0 n1 n2 n3 n4 n5 n6 n7 n8 n9 n10 n11
  have K0 := Lib.hid k0
  have K1 := Lib.hid k1
  have K2 := Lib.hid k2
  have HBW := Lib.hid hbW
  clear k0 k1 k2 kx kd hbW
  go_region
  have q3 : Blk ((W.alloc (.cells #[.int .i64 4, .slice (some ⟨d2, 0, none⟩) 2 2, .string ⟨#[]⟩, .slice none 0 0, .string ⟨#[]⟩, .slice none 0 0, .int .i64 0, .int .i64 0, .int .i64 0, .int .i64 0, .slice none 0 0, .slice none 0 0] 54)).drew) W.heap.size 54 #[.int .i64 4, .slice (some ⟨d2, 0, none⟩) 2 2, .string ⟨#[]⟩, .slice none 0 0, .string ⟨#[]⟩, .slice none 0 0, .int .i64 0, .int .i64 0, .int .i64 0, .int .i64 0, .slice none 0 0, .slice none 0 0] := (Blk.new W _ _).drew
  have hb2 : Below W.heap.size W ((W.alloc (.cells #[.int .i64 4, .slice (some ⟨d2, 0, none⟩) 2 2, .string ⟨#[]⟩, .slice none 0 0, .string ⟨#[]⟩, .slice none 0 0, .int .i64 0, .int .i64 0, .int .i64 0, .int .i64 0, .slice none 0 0, .slice none 0 0] 54)).drew) := ((Below.refl _ _).alloc (Nat.le_refl _) _).drew
  generalize ((W.alloc (.cells #[.int .i64 4, .slice (some ⟨d2, 0, none⟩) 2 2, .string ⟨#[]⟩, .slice none 0 0, .string ⟨#[]⟩, .slice none 0 0, .int .i64 0, .int .i64 0, .int .i64 0, .int .i64 0, .slice none 0 0, .slice none 0 0] 54)).drew) = W2 at *
  clear n0 n1 n2 n3 n4 n5 n6 n7 n8 n9 n10 n11 x2 p1 p2
  have m0 := q3.cell 0
  go_wp2_with fail
  refine (ruleOf_add _).mono ?_
  rintro e w3 ⟨rfl, hb3⟩
  obtain ⟨bn, hbn⟩ : ∃ b, b = W.heap.size := ⟨_, rfl⟩
  rw [← hbn] at q3 ⊢
  have zW2 := hb2.size
  have zw3 := hb3.size
  have z4 := q3.lt
  have hns : NS (w3.alloc (.cells #[.int .i64 0, .int .i64 2, .bool false, .int .i64 0, .int .i64 0, .int .i64 0, .string ⟨#[97, 100, 100]⟩] 228)) w.heap.size (w.heap.size + 1) (w.heap.size + 1 + 1) bn w3.heap.size bc bx 1 #[.int .i64 4, .slice (some ⟨d2, 0, none⟩) 2 2, .string ⟨#[]⟩, .slice none 0 0, .string ⟨#[]⟩, .slice none 0 0, .int .i64 0, .int .i64 0, .int .i64 0, .int .i64 0, .slice none 0 0, .slice none 0 0] #[.int .i64 0, .int .i64 2, .bool false, .int .i64 0, .int .i64 0, .int .i64 0, .string ⟨#[97, 100, 100]⟩] :=
    ⟨((K0.out.below hb2 y0).below hb3 (by omega)).alloc _, ((K1.out.below hb2 y1).below hb3 (by omega)).alloc _, ((K2.out.below hb2 y2).below hb3 (by omega)).alloc _, (q3.below hb3 z4).alloc _, Blk.new _ _ _, (((HC.out.below HBW.out zc).below hb2 zc').below hb3 (by omega)).alloc _⟩
  have hbw : Below w.heap.size w (w3.alloc (.cells #[.int .i64 0, .int .i64 2, .bool false, .int .i64 0, .int .i64 0, .int .i64 0, .string ⟨#[97, 100, 100]⟩] 228)) :=
    ((HBW.out.trans (hb2.mono zW)).trans (hb3.mono (by omega))).alloc (by omega) _
  have HNS := Lib.hid hns
  have HBw := Lib.hid hbw
  have z5 : w.heap.size ≤ w3.heap.size := by omega
  clear hns hbw hb2 hb3 q3 K0 K1 K2 HBW y0 y1 y2 zx' z3' zc' z1' zW2 zw3 z4 zW m0 hbn
  go_upto_region 5 with (fail)
  obtain ⟨br, hbr⟩ : ∃ b, b = w3.heap.size := ⟨_, rfl⟩
  rw [← hbr] at HNS ⊢
  clear hbr z5
  generalize (w3.alloc (.cells #[.int .i64 0, .int .i64 2, .bool false, .int .i64 0, .int .i64 0, .int .i64 0, .string ⟨#[97, 100, 100]⟩] 228)) = W4 at *
  have n0 := Blk.cell HNS.out.k3 0; have n1 := Blk.cell HNS.out.k3 1; have n2 := Blk.cell HNS.out.k3 2; have n3 := Blk.cell HNS.out.k3 3; have n4 := Blk.cell HNS.out.k3 4; have n5 := Blk.cell HNS.out.k3 5; have n6 := Blk.cell HNS.out.k3 6; have n7 := Blk.cell HNS.out.k3 7; have n8 := Blk.cell HNS.out.k3 8; have n9 := Blk.cell HNS.out.k3 9; have n10 := Blk.cell HNS.out.k3 10; have n11 := Blk.cell HNS.out.k3 11
  have r0 := Blk.cell HNS.out.k4 0; have r1 := Blk.cell HNS.out.k4 1; have r2 := Blk.cell HNS.out.k4 2; have r3 := Blk.cell HNS.out.k4 3; have r4 := Blk.cell HNS.out.k4 4; have r5 := Blk.cell HNS.out.k4 5; have r6 := Blk.cell HNS.out.k4 6
  go_upto_region 7 with (first
    | (go_at_call 185; refine (formed_add _ _).mono ?_; rintro e w5 ⟨rfl, hb5⟩; have HN5 := Lib.hid (HNS.out.fresh hb5); have HB5 := Lib.hid (HBw.out.trans (hb5.mono HBw.out.size)); clear n0 n1 n2 n3 n4 n5 n6 n7 n8 n9 n10 n11 r0 r1 r2 r3 r4 r5 r6 hb5; have n0 := Blk.cell HN5.out.k3 0; have n1 := Blk.cell HN5.out.k3 1; have n2 := Blk.cell HN5.out.k3 2; have n3 := Blk.cell HN5.out.k3 3; have n4 := Blk.cell HN5.out.k3 4; have n5 := Blk.cell HN5.out.k3 5; have n6 := Blk.cell HN5.out.k3 6; have n7 := Blk.cell HN5.out.k3 7; have n8 := Blk.cell HN5.out.k3 8; have n9 := Blk.cell HN5.out.k3 9; have n10 := Blk.cell HN5.out.k3 10; have n11 := Blk.cell HN5.out.k3 11; have r0 := Blk.cell HN5.out.k4 0; have r1 := Blk.cell HN5.out.k4 1; have r2 := Blk.cell HN5.out.k4 2; have r3 := Blk.cell HN5.out.k4 3; have r4 := Blk.cell HN5.out.k4 4; have r5 := Blk.cell HN5.out.k4 5; have r6 := Blk.cell HN5.out.k4 6; have c0 := HN5.out.kc.cell 0; have c1 := HN5.out.k0.cell 0; simp at c0 c1))
  have hd5 := HD2.out.below HB5.out z1
  have hk5 := HN5.out.k2
  have HCI := Lib.hid (contains_ints_no w5 (· = d2) (some ⟨d2, 0, none⟩) 2 2 [0, 0] (hd5.reads (n := 2) (size := 1) rfl) (by omega) 186 #[.pointer (some ⟨w.heap.size + 1 + 1, 0, none⟩)] (fun _ _ => rfl) (fun x hx => node1_no x 1 (w.heap.size + 1 + 1) w5 (by simp at hx; omega) (by simp at hx; omega) (hk5.cell 0)))
  clear hd5 hk5
  have HCJ : Hid (∀ (W : World) (caps : Array Value), Calls Tryz.prog 61 #[.slice none 0 0, .func (.func 187) #[] caps] W fun e w' => e = .returned (.bool false) ∧ W = w') := Lib.hid fun W caps =>
    contains_ints_no W (fun _ => True) none 0 0 [] Reads.none_ (by omega) 187 caps (fun _ _ => rfl) (by intro x hx; cases hx)
  go_wp2_with fail
  refine HCI.out.mono ?_
  rintro e w' ⟨rfl, rfl⟩
  go_wp2_with fail
  refine (HCJ.out _ _).mono ?_
  rintro e w' ⟨rfl, rfl⟩
  go_upto_region 11 with (fail)
  go_still_tail 6, (by kernel_rfl)
  change wpList _ _ _ _ _ w5.drew
  have HN6 := Lib.hid (HN5.out.fresh ((Below.refl w5.heap.size w5).drew))
  have HB6 := Lib.hid HB5.out.drew
  clear n0 n1 n2 n3 n4 n5 n6 n7 n8 n9 n10 n11 r0 r1 r2 r3 r4 r5 r6 c0 c1
  generalize w5.drew = w6 at *
  go_wp2_with fail
  refine (named_add _ _ _ _ _).mono ?_
  rintro e w7 ⟨rfl, hb7⟩
  have HN7 := Lib.hid (HN6.out.fresh hb7)
  have HB7 := Lib.hid (HB6.out.trans (hb7.mono HB6.out.size))
  clear HNS HN5 HB5 HN6 HB6 hb7
  have n1 := HN7.out.k3.cell 1
  obtain ⟨i0, hi0, hz0, hz1, hz2⟩ := info_parts info_axiss
  go_wp2_with fail
  clear n1
  go_loopw [60, 12] (fun i v wr => ∃ k : Nat, k ≤ 2 ∧ i = .int .i64 k ∧ Below w7.heap.size w7 wr ∧ Own wr (fun g => w7.heap.size ≤ g) 51 1 v k (List.replicate k (.slice none 0 0))) (fun i _ _ => 2 - (intOf i).toNat)
  case atStart => exact ⟨0, by omega, rfl, Below.refl _ _, Own.nil_ _ _ _ _⟩
  obtain ⟨k, hk, rfl, hbr, hor⟩ := hrel
  by_cases hlt : k < 2
  · have hd := (HD2.out.below HB7.out z1).below hbr (Nat.lt_of_lt_of_le z1 HB7.out.size)
    have hx := (HX.out.below HB7.out zx).below hbr (Nat.lt_of_lt_of_le zx HB7.out.size)
    have hn := HN7.out.fresh hbr
    have hs := (HSV.out.keeps (Keeps.of_below (HB7.out) (fun _ => False)) (fun _ _ h => h)).fresh hbr
    have a0 := hd.cell 0
    have a1 := hd.cell 1
    have q1 := hn.k1.cell 0
    have x5 := hx.cell 5
    have s0 := hs.get 0 (by omega)
    simp at a0 a1 q1 x5 s0
    have HOR := Lib.hid hor
    have HBR := Lib.hid hbr
    clear hd hx hn hs hor hbr
    rcases (show k = 0 ∨ k = 1 by omega) with rfl | rfl
    all_goals
      go_wp2_with (first
        | (at_builtin; go_must (refine wpList_append_any _ rfl _ _ 119 rfl 51 i0 _ 1 24 Tryz.underlying119 hi0 hz0 hz1 hz2 rfl (by omega) _ _ _ rfl (HOR.out.alloc _) _ 1 1 _ rfl (reads_cells _ _ [_] 1 1 rfl) (by intro u hu; simp at hu; subst hu; rfl) (by unfold maxLen; omega) (by omega) ?_); intro v' w8 happ))
      have hap := Lib.hid happ
      clear happ
      go_roundw
      case rel =>
        have hw7 := HBR.out.size
        have hge : ∀ g, Value.ownBlock _ = some g → w7.heap.size ≤ g := fun g e => HOR.out.2 g e
        refine ⟨_, by omega, by go_num, ?_, hap.out.1.more (fun g _ h => ?_)⟩
        · exact (HBR.out.alloc hw7 _).grown hap.out.2.1 (by simp; omega) hge
        · rcases h with h | h
          · exact h
          · simp at h; omega
      case measure => simp [intOf]
  obtain rfl : k = 2 := by omega
  obtain ⟨B, cB, rfl, hcB, -, zB, -⟩ := hor.form (by omega)
  have hrB := hor.reads
  have b0 := hor.get 0 (by omega)
  have HN8 := Lib.hid (HN7.out.fresh hbr)
  have HB8 := Lib.hid (HB7.out.trans (hbr.mono HB7.out.size))
  have HRB := Lib.hid hrB
  clear hbr hor hrB HN7 HB7 hlt hk
  go_upto_region 22 with (fail)
  refine node_r22 _ bn 4 _ _ _ _ _ _ _ _ _ _ _ (by decide) HN8.out.k3 (fun W => twice_add W _) _ ?_
  intro w9 y82 y83 y84 y85 y86 y87 y88 y89 y90 y91 y92 y93 y94 y95 y96 y97 y98 hb9
  have HN9 := Lib.hid (HN8.out.fresh hb9)
  have HR9 := Lib.hid (HRB.out.fresh hb9)
  have HB9 := Lib.hid (HB8.out.trans (hb9.mono HB8.out.size))
  clear HN8 HB8 HRB hb9
  have n0 := Blk.cell HN9.out.k3 0; have n1 := Blk.cell HN9.out.k3 1; have n2 := Blk.cell HN9.out.k3 2; have n3 := Blk.cell HN9.out.k3 3; have n4 := Blk.cell HN9.out.k3 4; have n5 := Blk.cell HN9.out.k3 5; have n6 := Blk.cell HN9.out.k3 6; have n7 := Blk.cell HN9.out.k3 7; have n8 := Blk.cell HN9.out.k3 8; have n9 := Blk.cell HN9.out.k3 9; have n10 := Blk.cell HN9.out.k3 10; have n11 := Blk.cell HN9.out.k3 11
  go_wp2_with fail
  have hx9 := HX.out.below HB9.out zx
  refine (ranged_add _ _ _).mono ?_
  rintro e w10 ⟨rfl, hb10⟩
  have HN10 := Lib.hid (HN9.out.fresh hb10)
  have HB10 := Lib.hid (HB9.out.trans (hb10.mono HB9.out.size))
  have HR10 := Lib.hid (HR9.out.fresh hb10)
  have HS10 := Lib.hid ((HSV.out.keeps (Keeps.of_below HB9.out (fun _ => False)) (fun _ _ h => h)).fresh hb10)
  have HX10 := Lib.hid (hx9.below hb10 hx9.lt)
  clear n0 n1 n2 n3 n4 n5 n6 n7 n8 n9 n10 n11 hx9 HN9 HR9 HSV HB9 hb10
  have n0 := Blk.cell HN10.out.k3 0; have n1 := Blk.cell HN10.out.k3 1; have n2 := Blk.cell HN10.out.k3 2; have n3 := Blk.cell HN10.out.k3 3; have n4 := Blk.cell HN10.out.k3 4; have n5 := Blk.cell HN10.out.k3 5; have n6 := Blk.cell HN10.out.k3 6; have n7 := Blk.cell HN10.out.k3 7; have n8 := Blk.cell HN10.out.k3 8; have n9 := Blk.cell HN10.out.k3 9; have n10 := Blk.cell HN10.out.k3 10; have n11 := Blk.cell HN10.out.k3 11
  have q0 := HN10.out.k0.cell 0
  have q1 := HN10.out.k1.cell 0
  have q2 := HN10.out.k2.cell 0
  go_wp2_with (go_at_call 191; refine (contains_axis_nil _ _ _ _).mono ?_; rintro e w' ⟨rfl, rfl⟩)
  refine (cshape_add w10 (· = gs) bc bx d2 d3 d4 mg 1 (.slice (some ⟨gs, 0, none⟩) 1 cs) 1 _ ⟨B, 0, none⟩ cB HR10.out hcB HN10.out.kc HX10.out HS10.out (by omega) ⟨?_, ?_⟩).mono ?_
  · intro e; exact (HS10.out.ne_blk HX10.out (by decide)) (by rw [e]; rfl)
  · intro e; exact (HS10.out.ne_blk HN10.out.kc (by decide)) (by rw [e]; rfl)
  rintro e w11 ⟨sv', rfl, hbx, hown, hk⟩
  have HK11 := Lib.hid (hk.mono (S' := fun g => g = bx ∨ g = gs) (fun i _ h => by rcases h with h | h; exact Or.inl h; simp [Value.ownBlock] at h; exact Or.inr h.symm))
  have HX11 := Lib.hid hbx
  have HO11 := Lib.hid hown
  clear hk hbx hown n0 n1 n2 n3 n4 n5 n6 n7 n8 n9 n10 n11 q0 q1 q2
  go_wp2_with fail
  go_ret
  exact ⟨sv', rfl, HX11.out, HO11.out.more (fun g _ h => by rcases h with h | h; exact Or.inl h; exact Or.inr (Nat.le_trans HB10.out.size h)), ((Keeps.refl (fun g => g = bx ∨ g = gs) w).fresh HB10.out).trans HK11.out (fun _ _ h => h)⟩
end Go.Proofs.YtempdomhbfokmaaGreatDoor

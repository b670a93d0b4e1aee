/- stands(): the checker's shape. -/
import Derived.Test.YtempdomhbfokmaaGreatDoorMz29
import Derived.Test.YtempdomhbfokmaaGreatDoorMz4
import Derived.Test.YtempdomhbfokmaaGreatDoorMz24
import Derived.Deep.RegionLaw
import Derived.StillTailTactics
namespace Go.Proofs.YtempdomhbfokmaaGreatDoor
open Go.RowKit

theorem append_nil_nil (P : Program) (t ty e : TypeId) (i : TypeInfo) (ht : P.underlying t = some (.slice e)) (hi : P.info? e = some i) (W : World) :
    (Builtin.append_ #[t, t] ty #[.slice none 0 0, .slice none 0 0]).run P W = .ok (.slice none 0 0) W := by
  simp [Builtin.append_, run_underlying ht, sizeOf, typeInfo, hi, Builtin.firstCells, Builtin.lenOf]
theorem blk_three (w : World) (t0 t1 t2 : TypeId) (c0 c1 c2 : Array Value) :
    Blk (((w.alloc (.cells c0 t0)).alloc (.cells c1 t1)).alloc (.cells c2 t2)) w.heap.size t0 c0 ∧ Blk (((w.alloc (.cells c0 t0)).alloc (.cells c1 t1)).alloc (.cells c2 t2)) (w.heap.size + 1) t1 c1 ∧
    Blk (((w.alloc (.cells c0 t0)).alloc (.cells c1 t1)).alloc (.cells c2 t2)) (w.heap.size + 1 + 1) t2 c2 ∧
    Below w.heap.size w (((w.alloc (.cells c0 t0)).alloc (.cells c1 t1)).alloc (.cells c2 t2)) := by
  have h1 : (w.alloc (.cells c0 t0)).heap.size = w.heap.size + 1 := by simp
  have h2 : ((w.alloc (.cells c0 t0)).alloc (.cells c1 t1)).heap.size = w.heap.size + 1 + 1 := by simp
  refine ⟨((Blk.new w t0 c0).alloc _).alloc _, ?_, ?_, (((Below.refl _ _).alloc (Nat.le_refl _) _).alloc (by omega) _).alloc (by omega) _⟩
  · have := (Blk.new (w.alloc (.cells c0 t0)) t1 c1).alloc (.cells c2 t2)
    rwa [h1] at this
  · have := Blk.new ((w.alloc (.cells c0 t0)).alloc (.cells c1 t1)) t2 c2
    rwa [h2] at this
theorem reads_cells (w : World) (t : TypeId) (xs : List Value) (size n : Nat) (hn : xs.length = n * size) : Reads (w.alloc (.cells xs.toArray t)) (· = w.heap.size) size (some ⟨w.heap.size, 0, none⟩) n xs := by
  refine ⟨hn, fun _ => ⟨_, rfl, by simp, rfl, fun j u hu => ?_⟩⟩
  have h : Blk (w.alloc (.cells xs.toArray t)) w.heap.size t xs.toArray := Blk.new w t _
  rw [Addr.add_lit, h.cell]
  simpa using hu
theorem Own.keepsOwn {w w' : World} {T S : Nat → Prop} {e : TypeId} {size n : Nat} {v : Value} {xs : List Value} (h : Own w T e size v n xs) (hk : Keeps S w w') (hs : ∀ g, v.ownBlock = some g → ¬ S g) : Own w' T e size v n xs :=
  ((show Own w (fun g => T g ∧ v.ownBlock = some g) e size v n xs from ⟨h.1, fun g hg => ⟨h.2 g hg, hg⟩⟩).keeps hk fun i hi => hs i hi.2).more fun g _ hg => hg.1
theorem info_axiss : (Tryz.prog.info? 51).map (fun i => (i.zero, i.size, i.bytes)) = some (some (.slice none 0 0), 1, 24) := by kernel_rfl
theorem info_constraint : ∃ i, Tryz.prog.info? 331 = some i := by
  have h : (Tryz.prog.info? 331).isSome = true := by kernel_rfl
  exact Option.isSome_iff_exists.1 h
set_option maxRecDepth 100000 in
set_option maxHeartbeats 1000000 in
theorem cshape_const (w : World) (S : Nat → Prop) (bc bx d1 d3 d4 mg k : Nat) (sv : Value) (i : Int) (hc : Blk w bc 154 #[.slice none 0 0]) (hx : Blk w bx 124 #[.string ⟨#[103]⟩, .slice none 0 0, .slice (some ⟨d3, 0, none⟩) 2 2, .slice (some ⟨d4, 0, none⟩) 1 1, .slice none 0 0, sv, .slice none 0 0, .map (some mg), .slice none 0 0, .slice none 0 0])
    (hs : Own w S 51 1 sv k (List.replicate k (.slice none 0 0))) (hk : k ≤ 2) (hS : ¬ S bx ∧ ¬ S bc) :
    Calls Tryz.prog 194 #[.pointer (some ⟨bc, 0, none⟩), .pointer (some ⟨bx, 0, none⟩), .agg #[.int .i64 2, .slice none 0 0, .string ⟨#[]⟩, .slice none 0 0, .string ⟨#[]⟩, .slice none 0 0, .int .i64 0, .int .i64 0, .int .i64 0, .int .i64 0, .slice (some ⟨d1, 0, none⟩) 1 1, .slice none 0 0], .int .i64 i, .slice none 0 0] w fun e w' => ∃ sv', e = .returned (.int .i64 0) ∧ Blk w' bx 124 #[.string ⟨#[103]⟩, .slice none 0 0, .slice (some ⟨d3, 0, none⟩) 2 2, .slice (some ⟨d4, 0, none⟩) 1 1, .slice none 0 0, sv', .slice none 0 0, .map (some mg), .slice none 0 0, .slice none 0 0] ∧
      Own w' (fun g => S g ∨ w.heap.size ≤ g) 51 1 sv' (k + 1) (List.replicate (k + 1) (.slice none 0 0)) ∧ Keeps (fun g => g = bx ∨ sv.ownBlock = some g) w w' := by
  have hmf : ∀ (fn : Fn) (first cap : Array Value) (w : World), (Instr.makeFunc fn first cap).run Tryz.prog w = .ok (.func fn first cap) w := fun _ _ _ _ => rfl
  have HX := Lib.hid hx
  have HC := Lib.hid hc
  have HS := Lib.hid hs
  have zx := hx.lt
  have zc := hc.lt
  have c0 := hc.cell 0
  clear hs hx hc
  obtain ⟨i0, hi0, hz0, hz1, hz2⟩ := info_parts info_axiss
  go_enter_defers Tryz.func194, Tryz.ntmps194
  go_wp2_with fail
  obtain ⟨k0, k1, k2, hbW⟩ := blk_three w 54 29 285 #[.int .i64 2, .slice none 0 0, .string ⟨#[]⟩, .slice none 0 0, .string ⟨#[]⟩, .slice none 0 0, .int .i64 0, .int .i64 0, .int .i64 0, .int .i64 0, .slice (some ⟨d1, 0, none⟩) 1 1, .slice none 0 0] #[.int .i64 0] #[.slice none 0 0, .slice none 0 0]
  generalize ((w.alloc (.cells #[.int .i64 2, .slice none 0 0, .string ⟨#[]⟩, .slice none 0 0, .string ⟨#[]⟩, .slice none 0 0, .int .i64 0, .int .i64 0, .int .i64 0, .int .i64 0, .slice (some ⟨d1, 0, none⟩) 1 1, .slice none 0 0] 54)).alloc (.cells #[.int .i64 0] 29)).alloc (.cells #[.slice none 0 0, .slice none 0 0] 285) = W at *
  have K0 := Lib.hid k0
  have K1 := Lib.hid k1
  have K2 := Lib.hid k2
  have HBW := Lib.hid hbW
  have hzW := hbW.size
  have y1 := k1.lt
  have y2 := k2.lt
  have n0 := k0.cell 0
  have n1 := k0.cell 1
  have n2 := k0.cell 2
  have n3 := k0.cell 3
  have n4 := k0.cell 4
  have n5 := k0.cell 5
  have n6 := k0.cell 6
  have n7 := k0.cell 7
  have n8 := k0.cell 8
  have n9 := k0.cell 9
  have n10 := k0.cell 10
  have n11 := k0.cell 11
  clear k0 k1 k2 hbW c0
  go_loop [26, 12] (fun i v => i = .int .i64 0 ∧ v = .slice none 0 0) (fun _ _ => 0)
  case atStart => exact ⟨rfl, rfl⟩
  obtain ⟨rfl, rfl⟩ := hrel
  go_wp2_with fail
  refine (shape_const _ _ _).mono ?_
  rintro e w2 ⟨rfl, hb2⟩
  have k0 := K0.out.below hb2 (by omega)
  have k1 := K1.out.below hb2 (by omega)
  have k2 := K2.out.below hb2 (by omega)
  have kx := (HX.out.below HBW.out zx).below hb2 (by omega)
  have ho := (HS.out.fresh HBW.out).fresh hb2
  have K0 := Lib.hid k0
  have K1 := Lib.hid k1
  have K2 := Lib.hid k2
  have KX := Lib.hid kx
  have HO := Lib.hid ho
  have HB2 := Lib.hid (HBW.out.trans (hb2.mono hzW))
  have zW2 := hb2.size
  have x5 := kx.cell 5
  have HNE := Lib.hid (ho.ne_blk kx (by decide))
  have HN0 := Lib.hid (ho.ne_blk k0 (by decide))
  have HN1 := Lib.hid (ho.ne_blk k1 (by decide))
  have HN2 := Lib.hid (ho.ne_blk k2 (by decide))
  clear n0 n1 n2 n3 n4 n5 n6 n7 n8 n9 n10 n11 hb2 k0 k1 k2 kx ho
  go_upto_region 15 with (first
    | (go_at_call 243; refine (cloneAxes_nil _ _ _).mono ?_; rintro e w' ⟨rfl, rfl⟩)
    | (go_at_call 227; refine (closed_nil _ _ _).mono ?_; rintro e w' ⟨rfl, rfl⟩)
    | (go_at_call 114; refine (elements_nil _ _ _).mono ?_; rintro e w' ⟨rfl, rfl⟩)
    | (at_builtin; go_must (refine wpList_append_any _ rfl _ _ 119 rfl 51 i0 _ 1 24 Tryz.underlying119 hi0 hz0 hz1 hz2 rfl (by omega) sv _ _ rfl (HO.out.alloc _) _ 1 1 _ rfl (reads_cells _ _ [_] 1 1 rfl) (by intro u hu; simp at hu; subst hu; rfl) (by unfold maxLen; omega) (by omega) ?_); intro sv' w3 happ; obtain ⟨gA, cp, rfl, hcp, -, -, -⟩ := happ.1.form (by omega); have kx3 := (KX.out.alloc _).grown happ.2.1 (fun e => HNE.out e.symm); have x5' := kx3.cell 5; have g5' := kx3.frozen 5))
  have kx4 : Blk (w3.setCell ⟨bx, 5, none⟩ (.slice (some ⟨gA, 0, none⟩) (k + 1) cp)) bx 124 #[.string ⟨#[103]⟩, .slice none 0 0, .slice (some ⟨d3, 0, none⟩) 2 2, .slice (some ⟨d4, 0, none⟩) 1 1, .slice none 0 0, (.slice (some ⟨gA, 0, none⟩) (k + 1) cp), .slice none 0 0, .map (some mg), .slice none 0 0, .slice none 0 0] := kx3.set_ 5 (.slice (some ⟨gA, 0, none⟩) (k + 1) cp)
  have k04 := ((K0.out.alloc (.cells #[.slice none 0 0] 51)).grown happ.2.1 (fun e => HN0.out e.symm)).far (p := ⟨bx, 5, none⟩) (show w.heap.size ≠ bx by omega) (.slice (some ⟨gA, 0, none⟩) (k + 1) cp)
  have k14 := ((K1.out.alloc (.cells #[.slice none 0 0] 51)).grown happ.2.1 (fun e => HN1.out e.symm)).far (p := ⟨bx, 5, none⟩) (show w.heap.size + 1 ≠ bx by omega) (.slice (some ⟨gA, 0, none⟩) (k + 1) cp)
  have k24 := ((K2.out.alloc (.cells #[.slice none 0 0] 51)).grown happ.2.1 (fun e => HN2.out e.symm)).far (p := ⟨bx, 5, none⟩) (show w.heap.size + 1 + 1 ≠ bx by omega) (.slice (some ⟨gA, 0, none⟩) (k + 1) cp)
  have hk4 : Keeps (fun g => g = bx ∨ sv.ownBlock = some g) w (w3.setCell ⟨bx, 5, none⟩ (.slice (some ⟨gA, 0, none⟩) (k + 1) cp)) :=
    Keeps.setCell (p := ⟨bx, 5, none⟩) ((((Keeps.refl (fun g => g = bx ∨ sv.ownBlock = some g) w).fresh HB2.out).alloc _).grown happ.2.1 (fun g e _ => Or.inr e)) (fun _ => Or.inl rfl) _
  have ho4 : Own (w3.setCell ⟨bx, 5, none⟩ (.slice (some ⟨gA, 0, none⟩) (k + 1) cp)) (fun g => S g ∨ w.heap.size ≤ g) 51 1 (.slice (some ⟨gA, 0, none⟩) (k + 1) cp) (k + 1) (List.replicate (k + 1) (.slice none 0 0)) := by
    have h1 : Own w3 (fun g => S g ∨ w.heap.size ≤ g) 51 1 (.slice (some ⟨gA, 0, none⟩) (k + 1) cp) (k + 1) (List.replicate (k + 1) (.slice none 0 0)) := by
      rw [List.replicate_succ']
      exact happ.1.more fun g _ h => by
        rcases h with h | h
        · exact Or.inl h
        · right; simp at h; omega
    refine h1.setCell (p := ⟨bx, 5, none⟩) ?_ _
    rintro (h | h)
    · exact hS.1 h
    · have : w.heap.size ≤ bx := h
      omega
  generalize w3.setCell ⟨bx, 5, none⟩ (.slice (some ⟨gA, 0, none⟩) (k + 1) cp) = W4 at *
  have c9 := kx4.cell 9
  have f9 := kx4.frozen 9
  have s1 := k24.cell 1
  have KX4 := Lib.hid kx4
  have K04 := Lib.hid k04
  have K14 := Lib.hid k14
  have HK4 := Lib.hid hk4
  have HO4 := Lib.hid ho4
  clear kx4 k04 k14 k24 hk4 ho4 kx3 x5' g5' happ x5 HNE HN0 HN1 HN2
  obtain ⟨ic, hic⟩ := info_constraint
  have hap := fun W ty => append_nil_nil Tryz.prog 122 ty 331 ic Tryz.underlying122 hic W
  clear hic
  go_region
  clear hap c9 f9 s1
  have kx5 : Blk (W4.setCell ⟨bx, 9, none⟩ (.slice none 0 0)).drew bx 124 #[.string ⟨#[103]⟩, .slice none 0 0, .slice (some ⟨d3, 0, none⟩) 2 2, .slice (some ⟨d4, 0, none⟩) 1 1, .slice none 0 0, (.slice (some ⟨gA, 0, none⟩) (k + 1) cp), .slice none 0 0, .map (some mg), .slice none 0 0, .slice none 0 0] := (KX4.out.set_ 9 (.slice none 0 0)).drew
  have k05 := (K04.out.far (p := ⟨bx, 9, none⟩) (show w.heap.size ≠ bx by omega) (.slice none 0 0)).drew
  have k15 := (K14.out.far (p := ⟨bx, 9, none⟩) (show w.heap.size + 1 ≠ bx by omega) (.slice none 0 0)).drew
  have hk5 : Keeps (fun g => g = bx ∨ sv.ownBlock = some g) w (W4.setCell ⟨bx, 9, none⟩ (.slice none 0 0)).drew := (HK4.out.setCell (p := ⟨bx, 9, none⟩) (fun _ => Or.inl rfl) _).drew
  have ho5 := (HO4.out.setCell (p := ⟨bx, 9, none⟩) (by rintro (h | h); exact hS.1 h; have : w.heap.size ≤ bx := h; omega) (.slice none 0 0)).drew
  generalize (W4.setCell ⟨bx, 9, none⟩ (.slice none 0 0)).drew = W5 at *
  have n0 := k05.cell 0
  have e0 := k15.cell 0
  have g0 := k15.frozen 0
  have KX5 := Lib.hid kx5
  have K15 := Lib.hid k15
  have HK5 := Lib.hid hk5
  have HO5 := Lib.hid ho5
  clear kx5 k05 k15 hk5 ho5
  go_wp2_with fail
  have k16 := K15.out.set_ 0 (.int .i64 0)
  have d8 : (loadVar 29 ⟨w.heap.size + 1, 0, none⟩).run Tryz.prog (W5.setCell ⟨w.heap.size + 1, 0, none⟩ (.int .i64 0)) = .ok (.int .i64 0) (W5.setCell ⟨w.heap.size + 1, 0, none⟩ (.int .i64 0)) := by
    have e1 : (W5.setCell ⟨w.heap.size + 1, 0, none⟩ (.int .i64 0)).cell? ⟨w.heap.size + 1, 0, none⟩ = some (.int .i64 0) := k16.cell 0
    simp [loadVar, go_sem, e1]
  clear e0 g0 n0
  refine leaves_cons (f := 242) (args := #[.pointer (some ⟨w.heap.size + 1, 0, none⟩)]) (by simp) (by simp [go_sem]) ?_
  refine (shape_idle ⟨w.heap.size + 1, 0, none⟩ _).mono ?_
  rintro e u' w'' ⟨rfl, rfl, rfl⟩
  refine ⟨.int .i64 0, ?_, _, rfl, KX5.out.far (p := ⟨w.heap.size + 1, 0, none⟩) (show bx ≠ w.heap.size + 1 by omega) _, ?_, ?_⟩
  · simp [results, Tryz.f194, asAddr, d8]
  · have h1 : Own W5 (fun g => S g ∨ w.heap.size ≤ g) 51 1 (.slice (some ⟨gA, 0, none⟩) (k + 1) cp) (k + 1) (List.replicate (k + 1) (.slice none 0 0)) := HO5.out
    have hne := h1.ne_blk K15.out (by decide)
    exact h1.keepsOwn (Keeps.setCell (p := ⟨w.heap.size + 1, 0, none⟩) (Keeps.refl (fun g => g = w.heap.size + 1) W5) (fun _ => rfl) _) (fun g e e' => hne (by rw [e, e']))
  · exact HK5.out.setCell (p := ⟨w.heap.size + 1, 0, none⟩) (fun h => absurd h (by show ¬ w.heap.size + 1 < w.heap.size; omega)) _
set_option maxRecDepth 100000 in
set_option maxHeartbeats 1000000 in
theorem cshape_add (w : World) (S : Nat → Prop) (bc bx d2 d3 d4 mg k : Nat) (sv : Value) (i : Int) (T : Nat → Prop) (B : Addr) (cs : Nat) (hr : Reads w T 1 (some B) 2 [.slice none 0 0, .slice none 0 0]) (hcs : 2 ≤ cs) (hc : Blk w bc 154 #[.slice none 0 0]) (hx : Blk w bx 124 #[.string ⟨#[103]⟩, .slice none 0 0, .slice (some ⟨d3, 0, none⟩) 2 2, .slice (some ⟨d4, 0, none⟩) 1 1, .slice none 0 0, sv, .slice none 0 0, .map (some mg), .slice none 0 0, .slice none 0 0])
    (hs : Own w S 51 1 sv k (List.replicate k (.slice none 0 0))) (hk : k ≤ 2) (hS : ¬ S bx ∧ ¬ S bc) :
    Calls Tryz.prog 194 #[.pointer (some ⟨bc, 0, none⟩), .pointer (some ⟨bx, 0, none⟩), .agg #[.int .i64 4, .slice (some ⟨d2, 0, none⟩) 2 2, .string ⟨#[]⟩, .slice none 0 0, .string ⟨#[]⟩, .slice none 0 0, .int .i64 0, .int .i64 0, .int .i64 0, .int .i64 0, .slice none 0 0, .slice none 0 0], .int .i64 i, .slice (some B) 2 cs] w fun e w' => ∃ sv', e = .returned (.int .i64 0) ∧ Blk w' bx 124 #[.string ⟨#[103]⟩, .slice none 0 0, .slice (some ⟨d3, 0, none⟩) 2 2, .slice (some ⟨d4, 0, none⟩) 1 1, .slice none 0 0, sv', .slice none 0 0, .map (some mg), .slice none 0 0, .slice none 0 0] ∧
      Own w' (fun g => S g ∨ w.heap.size ≤ g) 51 1 sv' (k + 1) (List.replicate (k + 1) (.slice none 0 0)) ∧ Keeps (fun g => g = bx ∨ sv.ownBlock = some g) w w' := by
  have hmf : ∀ (fn : Fn) (first cap : Array Value) (w : World), (Instr.makeFunc fn first cap).run Tryz.prog w = .ok (.func fn first cap) w := fun _ _ _ _ => rfl
  have HX := Lib.hid hx
  have HC := Lib.hid hc
  have HS := Lib.hid hs
  have HR := Lib.hid hr
  clear hr
  have zx := hx.lt
  have zc := hc.lt
  have c0 := hc.cell 0
  clear hs hx hc
  obtain ⟨i0, hi0, hz0, hz1, hz2⟩ := info_parts info_axiss
  go_enter_defers Tryz.func194, Tryz.ntmps194
  go_wp2_with fail
  obtain ⟨k0, k1, k2, hbW⟩ := blk_three w 54 29 285 #[.int .i64 4, .slice (some ⟨d2, 0, none⟩) 2 2, .string ⟨#[]⟩, .slice none 0 0, .string ⟨#[]⟩, .slice none 0 0, .int .i64 0, .int .i64 0, .int .i64 0, .int .i64 0, .slice none 0 0, .slice none 0 0] #[.int .i64 0] #[.slice none 0 0, .slice none 0 0]
  generalize ((w.alloc (.cells #[.int .i64 4, .slice (some ⟨d2, 0, none⟩) 2 2, .string ⟨#[]⟩, .slice none 0 0, .string ⟨#[]⟩, .slice none 0 0, .int .i64 0, .int .i64 0, .int .i64 0, .int .i64 0, .slice none 0 0, .slice none 0 0] 54)).alloc (.cells #[.int .i64 0] 29)).alloc (.cells #[.slice none 0 0, .slice none 0 0] 285) = W at *
  have K0 := Lib.hid k0
  have K1 := Lib.hid k1
  have K2 := Lib.hid k2
  have HBW := Lib.hid hbW
  have hzW := hbW.size
  have y1 := k1.lt
  have y2 := k2.lt
  have n0 := k0.cell 0
  have n1 := k0.cell 1
  have n2 := k0.cell 2
  have n3 := k0.cell 3
  have n4 := k0.cell 4
  have n5 := k0.cell 5
  have n6 := k0.cell 6
  have n7 := k0.cell 7
  have n8 := k0.cell 8
  have n9 := k0.cell 9
  have n10 := k0.cell 10
  have n11 := k0.cell 11
  clear k0 k1 k2 hbW c0
  go_loop [26, 12] (fun i v => i = .int .i64 0 ∧ v = .slice none 0 0) (fun _ _ => 0)
  case atStart => exact ⟨rfl, rfl⟩
  obtain ⟨rfl, rfl⟩ := hrel
  go_wp2_with fail
  refine (shape_add _ T _ _ _ _ (HR.out.fresh HBW.out) hcs).mono ?_
  rintro e w2 ⟨rfl, hb2⟩
  have k0 := K0.out.below hb2 (by omega)
  have k1 := K1.out.below hb2 (by omega)
  have k2 := K2.out.below hb2 (by omega)
  have kx := (HX.out.below HBW.out zx).below hb2 (by omega)
  have ho := (HS.out.fresh HBW.out).fresh hb2
  have K0 := Lib.hid k0
  have K1 := Lib.hid k1
  have K2 := Lib.hid k2
  have KX := Lib.hid kx
  have HO := Lib.hid ho
  have HB2 := Lib.hid (HBW.out.trans (hb2.mono hzW))
  have zW2 := hb2.size
  have x5 := kx.cell 5
  have HNE := Lib.hid (ho.ne_blk kx (by decide))
  have HN0 := Lib.hid (ho.ne_blk k0 (by decide))
  have HN1 := Lib.hid (ho.ne_blk k1 (by decide))
  have HN2 := Lib.hid (ho.ne_blk k2 (by decide))
  clear n0 n1 n2 n3 n4 n5 n6 n7 n8 n9 n10 n11 hb2 k0 k1 k2 kx ho
  go_upto_region 15 with (first
    | (go_at_call 243; refine (cloneAxes_nil _ _ _).mono ?_; rintro e w' ⟨rfl, rfl⟩)
    | (go_at_call 227; refine (closed_nil _ _ _).mono ?_; rintro e w' ⟨rfl, rfl⟩)
    | (go_at_call 114; refine (elements_nil _ _ _).mono ?_; rintro e w' ⟨rfl, rfl⟩)
    | (at_builtin; go_must (refine wpList_append_any _ rfl _ _ 119 rfl 51 i0 _ 1 24 Tryz.underlying119 hi0 hz0 hz1 hz2 rfl (by omega) sv _ _ rfl (HO.out.alloc _) _ 1 1 _ rfl (reads_cells _ _ [_] 1 1 rfl) (by intro u hu; simp at hu; subst hu; rfl) (by unfold maxLen; omega) (by omega) ?_); intro sv' w3 happ; obtain ⟨gA, cp, rfl, hcp, -, -, -⟩ := happ.1.form (by omega); have kx3 := (KX.out.alloc _).grown happ.2.1 (fun e => HNE.out e.symm); have x5' := kx3.cell 5; have g5' := kx3.frozen 5))
  have kx4 : Blk (w3.setCell ⟨bx, 5, none⟩ (.slice (some ⟨gA, 0, none⟩) (k + 1) cp)) bx 124 #[.string ⟨#[103]⟩, .slice none 0 0, .slice (some ⟨d3, 0, none⟩) 2 2, .slice (some ⟨d4, 0, none⟩) 1 1, .slice none 0 0, (.slice (some ⟨gA, 0, none⟩) (k + 1) cp), .slice none 0 0, .map (some mg), .slice none 0 0, .slice none 0 0] := kx3.set_ 5 (.slice (some ⟨gA, 0, none⟩) (k + 1) cp)
  have k04 := ((K0.out.alloc (.cells #[.slice none 0 0] 51)).grown happ.2.1 (fun e => HN0.out e.symm)).far (p := ⟨bx, 5, none⟩) (show w.heap.size ≠ bx by omega) (.slice (some ⟨gA, 0, none⟩) (k + 1) cp)
  have k14 := ((K1.out.alloc (.cells #[.slice none 0 0] 51)).grown happ.2.1 (fun e => HN1.out e.symm)).far (p := ⟨bx, 5, none⟩) (show w.heap.size + 1 ≠ bx by omega) (.slice (some ⟨gA, 0, none⟩) (k + 1) cp)
  have k24 := ((K2.out.alloc (.cells #[.slice none 0 0] 51)).grown happ.2.1 (fun e => HN2.out e.symm)).far (p := ⟨bx, 5, none⟩) (show w.heap.size + 1 + 1 ≠ bx by omega) (.slice (some ⟨gA, 0, none⟩) (k + 1) cp)
  have hk4 : Keeps (fun g => g = bx ∨ sv.ownBlock = some g) w (w3.setCell ⟨bx, 5, none⟩ (.slice (some ⟨gA, 0, none⟩) (k + 1) cp)) :=
    Keeps.setCell (p := ⟨bx, 5, none⟩) ((((Keeps.refl (fun g => g = bx ∨ sv.ownBlock = some g) w).fresh HB2.out).alloc _).grown happ.2.1 (fun g e _ => Or.inr e)) (fun _ => Or.inl rfl) _
  have ho4 : Own (w3.setCell ⟨bx, 5, none⟩ (.slice (some ⟨gA, 0, none⟩) (k + 1) cp)) (fun g => S g ∨ w.heap.size ≤ g) 51 1 (.slice (some ⟨gA, 0, none⟩) (k + 1) cp) (k + 1) (List.replicate (k + 1) (.slice none 0 0)) := by
    have h1 : Own w3 (fun g => S g ∨ w.heap.size ≤ g) 51 1 (.slice (some ⟨gA, 0, none⟩) (k + 1) cp) (k + 1) (List.replicate (k + 1) (.slice none 0 0)) := by
      rw [List.replicate_succ']
      exact happ.1.more fun g _ h => by
        rcases h with h | h
        · exact Or.inl h
        · right; simp at h; omega
    refine h1.setCell (p := ⟨bx, 5, none⟩) ?_ _
    rintro (h | h)
    · exact hS.1 h
    · have : w.heap.size ≤ bx := h
      omega
  generalize w3.setCell ⟨bx, 5, none⟩ (.slice (some ⟨gA, 0, none⟩) (k + 1) cp) = W4 at *
  have c9 := kx4.cell 9
  have f9 := kx4.frozen 9
  have s1 := k24.cell 1
  have KX4 := Lib.hid kx4
  have K04 := Lib.hid k04
  have K14 := Lib.hid k14
  have HK4 := Lib.hid hk4
  have HO4 := Lib.hid ho4
  clear kx4 k04 k14 k24 hk4 ho4 kx3 x5' g5' happ x5 HNE HN0 HN1 HN2
  obtain ⟨ic, hic⟩ := info_constraint
  have hap := fun W ty => append_nil_nil Tryz.prog 122 ty 331 ic Tryz.underlying122 hic W
  clear hic
  go_region
  clear hap c9 f9 s1
  have kx5 : Blk (W4.setCell ⟨bx, 9, none⟩ (.slice none 0 0)).drew bx 124 #[.string ⟨#[103]⟩, .slice none 0 0, .slice (some ⟨d3, 0, none⟩) 2 2, .slice (some ⟨d4, 0, none⟩) 1 1, .slice none 0 0, (.slice (some ⟨gA, 0, none⟩) (k + 1) cp), .slice none 0 0, .map (some mg), .slice none 0 0, .slice none 0 0] := (KX4.out.set_ 9 (.slice none 0 0)).drew
  have k05 := (K04.out.far (p := ⟨bx, 9, none⟩) (show w.heap.size ≠ bx by omega) (.slice none 0 0)).drew
  have k15 := (K14.out.far (p := ⟨bx, 9, none⟩) (show w.heap.size + 1 ≠ bx by omega) (.slice none 0 0)).drew
  have hk5 : Keeps (fun g => g = bx ∨ sv.ownBlock = some g) w (W4.setCell ⟨bx, 9, none⟩ (.slice none 0 0)).drew := (HK4.out.setCell (p := ⟨bx, 9, none⟩) (fun _ => Or.inl rfl) _).drew
  have ho5 := (HO4.out.setCell (p := ⟨bx, 9, none⟩) (by rintro (h | h); exact hS.1 h; have : w.heap.size ≤ bx := h; omega) (.slice none 0 0)).drew
  generalize (W4.setCell ⟨bx, 9, none⟩ (.slice none 0 0)).drew = W5 at *
  have n0 := k05.cell 0
  have e0 := k15.cell 0
  have g0 := k15.frozen 0
  have KX5 := Lib.hid kx5
  have K15 := Lib.hid k15
  have HK5 := Lib.hid hk5
  have HO5 := Lib.hid ho5
  clear kx5 k05 k15 hk5 ho5
  go_wp2_with fail
  have k16 := K15.out.set_ 0 (.int .i64 0)
  have d8 : (loadVar 29 ⟨w.heap.size + 1, 0, none⟩).run Tryz.prog (W5.setCell ⟨w.heap.size + 1, 0, none⟩ (.int .i64 0)) = .ok (.int .i64 0) (W5.setCell ⟨w.heap.size + 1, 0, none⟩ (.int .i64 0)) := by
    have e1 : (W5.setCell ⟨w.heap.size + 1, 0, none⟩ (.int .i64 0)).cell? ⟨w.heap.size + 1, 0, none⟩ = some (.int .i64 0) := k16.cell 0
    simp [loadVar, go_sem, e1]
  clear e0 g0 n0
  refine leaves_cons (f := 242) (args := #[.pointer (some ⟨w.heap.size + 1, 0, none⟩)]) (by simp) (by simp [go_sem]) ?_
  refine (shape_idle ⟨w.heap.size + 1, 0, none⟩ _).mono ?_
  rintro e u' w'' ⟨rfl, rfl, rfl⟩
  refine ⟨.int .i64 0, ?_, _, rfl, KX5.out.far (p := ⟨w.heap.size + 1, 0, none⟩) (show bx ≠ w.heap.size + 1 by omega) _, ?_, ?_⟩
  · simp [results, Tryz.f194, asAddr, d8]
  · have h1 : Own W5 (fun g => S g ∨ w.heap.size ≤ g) 51 1 (.slice (some ⟨gA, 0, none⟩) (k + 1) cp) (k + 1) (List.replicate (k + 1) (.slice none 0 0)) := HO5.out
    have hne := h1.ne_blk K15.out (by decide)
    exact h1.keepsOwn (Keeps.setCell (p := ⟨w.heap.size + 1, 0, none⟩) (Keeps.refl (fun g => g = w.heap.size + 1) W5) (fun _ => rfl) _) (fun g e e' => hne (by rw [e, e']))
  · exact HK5.out.setCell (p := ⟨w.heap.size + 1, 0, none⟩) (fun h => absurd h (by show ¬ w.heap.size + 1 < w.heap.size; omega)) _
end Go.Proofs.YtempdomhbfokmaaGreatDoor

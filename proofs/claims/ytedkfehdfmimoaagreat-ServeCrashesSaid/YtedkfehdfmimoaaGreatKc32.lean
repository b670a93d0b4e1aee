/- Stream.Request. -/
import Derived.Test.YtedkfehdfmimoaaGreatKc31
import Derived.Test.YtedkfehdfmimoaaGreatKc23
import Derived.Deep.RegionLaw
import Derived.Deep.DeepCutAuto
import Derived.Deep.CutBlock
namespace Go.Proofs.YtedkfehdfmimoaaGreat
open Go.RowKit

theorem keeps5 (w : World) (g : Nat) (a0 a1 a2 a3 a4 : Value) : Keeps (· = g) w (((((w.setCell ⟨g, 0, none⟩ a0).setCell ⟨g, 1, none⟩ a1).setCell ⟨g, 2, none⟩ a2).setCell ⟨g, 3, none⟩ a3).setCell ⟨g, 4, none⟩ a4) :=
  Keeps.setCell (p := ⟨g, 4, none⟩) (keeps4 w g a0 a1 a2 a3) (fun _ => rfl) _
theorem blk5 (w : World) (g : Nat) (t : TypeId) (b0 b1 b2 b3 b4 a0 a1 a2 a3 a4 : Value) (h : Blk w g t #[b0, b1, b2, b3, b4]) :
    Blk (((((w.setCell ⟨g, 0, none⟩ a0).setCell ⟨g, 1, none⟩ a1).setCell ⟨g, 2, none⟩ a2).setCell ⟨g, 3, none⟩ a3).setCell ⟨g, 4, none⟩ a4) g t #[a0, a1, a2, a3, a4] := by
  have h : Blk (w.setCell ⟨g, 0, none⟩ a0) g t #[a0, b1, b2, b3, b4] := h.set_ 0 a0
  have h : Blk ((w.setCell ⟨g, 0, none⟩ a0).setCell ⟨g, 1, none⟩ a1) g t #[a0, a1, b2, b3, b4] := h.set_ 1 a1
  have h : Blk (((w.setCell ⟨g, 0, none⟩ a0).setCell ⟨g, 1, none⟩ a1).setCell ⟨g, 2, none⟩ a2) g t #[a0, a1, a2, b3, b4] := h.set_ 2 a2
  have h : Blk ((((w.setCell ⟨g, 0, none⟩ a0).setCell ⟨g, 1, none⟩ a1).setCell ⟨g, 2, none⟩ a2).setCell ⟨g, 3, none⟩ a3) g t #[a0, a1, a2, a3, b4] := h.set_ 3 a3
  exact h.set_ 4 a4
/-- What Request and Asked give. -/
def AskPost (w : World) (p : Nat) (A : Option Addr) (n c : Nat) (l : List Int) (a m : Int) (R : Ask → Prop) (e : Ending) (w' : World) : Prop :=
  ∃ (r : Ask) (vp : Value) (a' : Int), e = .returned (askVal vp r) ∧ R r ∧ Slc w' (fun g => w.heap.size ≤ g) vp r.prompt ∧ a ≤ a' ∧ a' ≤ a + m ∧ Str w' p A n c l a' ∧ Keeps (· = p) w w'
/-- The state inside Request. -/
structure RqS (w W : World) (p : Nat) (A : Option Addr) (n c : Nat) (l : List Int) (V q3 q4 q5 : Nat) (a' id dl : Int) (vp : Value) (mo sd : Int) (pr : List Int) : Prop where
  s0 : ∃ a0, Str w p A n c l a0
  str : Str W p A n c l a'
  kp : Keeps (· = p) w W
  k3 : W.cell? ⟨q3, 1, none⟩ = some (.int .i64 V)
  k4 : Blk W q4 41 #[.int .i64 0, .int .i64 0, .slice none 0 0, .int .i64 0, .int .i64 0]
  k5 : Blk W q5 41 #[.int .i64 id, .int .i64 dl, vp, .int .i64 mo, .int .i64 sd]
  own : Own W (fun g => q5 < g) 3 1 vp pr.length (ints pr)
  lp : p < w.heap.size
  l3 : w.heap.size ≤ q3
  l34 : q3 < q4
  l45 : q4 < q5
section
variable {w W W' : World} {p : Nat} {A : Option Addr} {n c : Nat} {l : List Int} {V q3 q4 q5 : Nat} {a' a2 id dl : Int} {vp : Value} {mo sd : Int} {pr : List Int}
theorem RqS.moved (h : RqS w W p A n c l V q3 q4 q5 a' id dl vp mo sd pr) (hs : Str W' p A n c l a2) (hk : Keeps (· = p) W W') : RqS w W' p A n c l V q3 q4 q5 a2 id dl vp mo sd pr := by
  have l0 := h.lp
  have l1 := h.l3
  have l2 := h.l34
  have l3 := h.l45
  have z4 := h.k4.lt
  refine ⟨h.s0, hs, h.kp.tr hk, (hk.cell (p := ⟨q3, 1, none⟩) (by show q3 < _; omega) (by show ¬ q3 = p; omega)).trans h.k3, hk.blk h.k4 (by omega), hk.blk h.k5 (by omega), h.own.keeps hk (fun i hi => by omega), l0, l1, l2, l3⟩
theorem RqS.fresh (h : RqS w W p A n c l V q3 q4 q5 a' id dl vp mo sd pr) (hb : Below W.heap.size W W') : RqS w W' p A n c l V q3 q4 q5 a' id dl vp mo sd pr := h.moved (h.str.fresh hb) (Keeps.of_below hb _)
theorem RqS.alloc (h : RqS w W p A n c l V q3 q4 q5 a' id dl vp mo sd pr) (o : Obj) : RqS w (W.alloc o) p A n c l V q3 q4 q5 a' id dl vp mo sd pr := h.fresh ((Below.refl _ _).alloc (Nat.le_refl _) o)
theorem RqS.drewN (h : RqS w W p A n c l V q3 q4 q5 a' id dl vp mo sd pr) (k : Nat) : RqS w (W.drewN k) p A n c l V q3 q4 q5 a' id dl vp mo sd pr := h.fresh ⟨rfl, rfl, rfl, Nat.le_refl _, fun _ _ => rfl⟩
theorem RqS.drew (h : RqS w W p A n c l V q3 q4 q5 a' id dl vp mo sd pr) : RqS w W.drew p A n c l V q3 q4 q5 a' id dl vp mo sd pr := h.drewN 1
/-- a piece that turns only block q5 and what lies behind it -/
theorem RqS.far {S : Nat → Prop} (h : RqS w W p A n c l V q3 q4 q5 a' id dl vp mo sd pr) (hk : Keeps S W W') (hS : ∀ g, S g → q5 ≤ g) {vp' : Value} {mo' sd' : Int} {pr' : List Int} (hb : Blk W' q5 41 #[.int .i64 id, .int .i64 dl, vp', .int .i64 mo', .int .i64 sd'])
    (ho : Own W' (fun g => q5 < g) 3 1 vp' pr'.length (ints pr')) : RqS w W' p A n c l V q3 q4 q5 a' id dl vp' mo' sd' pr' := by
  have l0 := h.lp
  have l1 := h.l3
  have l2 := h.l34
  have l3 := h.l45
  have z4 := h.k4.lt
  obtain ⟨a0, s0⟩ := h.s0
  have kp : Keeps (· = p) w W' := h.kp.trans hk (fun i hi e => by have := hS i e; omega)
  refine ⟨h.s0, s0.again kp (hk.blk h.str.blk (fun e => by have := hS p e; omega)) h.str.at0, kp, (hk.cell (p := ⟨q3, 1, none⟩) (by show q3 < _; omega) (fun e => by have := hS _ e; dsimp only at this; omega)).trans h.k3, hk.blk h.k4 (fun e => by have := hS _ e; omega), hb, ho, l0, l1, l2, l3⟩
theorem keeps_one (W : World) (g i : Nat) (u : Value) : Keeps (· = g) W (W.setCell ⟨g, i, none⟩ u) := Keeps.setCell (p := ⟨g, i, none⟩) (Keeps.refl (· = g) W) (fun _ => rfl) _
theorem RqS.setMost (h : RqS w W p A n c l V q3 q4 q5 a' id dl vp mo sd pr) (x : Int) : RqS w (W.setCell ⟨q5, 3, none⟩ (.int .i64 x)) p A n c l V q3 q4 q5 a' id dl vp x sd pr :=
  h.far (keeps_one W q5 3 _) (fun g e => by omega) (h.k5.set_ 3 _) (h.own.setCell (p := ⟨q5, 3, none⟩) (Nat.lt_irrefl _) _)
theorem RqS.setSeed (h : RqS w W p A n c l V q3 q4 q5 a' id dl vp mo sd pr) (x : Int) : RqS w (W.setCell ⟨q5, 4, none⟩ (.int .i64 x)) p A n c l V q3 q4 q5 a' id dl vp mo x pr :=
  h.far (keeps_one W q5 4 _) (fun g e => by omega) (h.k5.set_ 4 _) (h.own.setCell (p := ⟨q5, 4, none⟩) (Nat.lt_irrefl _) _)
theorem RqS.setPrompt (h : RqS w W p A n c l V q3 q4 q5 a' id dl vp mo sd pr) {v' : Value} {pr' : List Int} (ho : Own W (fun g => q5 < g) 3 1 v' pr'.length (ints pr')) : RqS w (W.setCell ⟨q5, 2, none⟩ v') p A n c l V q3 q4 q5 a' id dl v' mo sd pr' :=
  h.far (keeps_one W q5 2 _) (fun g e => by omega) (h.k5.set_ 2 _) (ho.setCell (p := ⟨q5, 2, none⟩) (Nat.lt_irrefl _) _)
/-- an append to the prompt and its store -/
theorem RqS.push (h : RqS w W p A n c l V q3 q4 q5 a' id dl vp mo sd pr) {v' : Value} {x : Int} {k : Nat} (hk : k = pr.length) (o : Obj) (happ : Appended (W.alloc o) W' (fun g => q5 < g) 3 1 vp v' (k + 1) (ints pr ++ [.int .i64 x])) :
    RqS w (W'.setCell ⟨q5, 2, none⟩ v') p A n c l V q3 q4 q5 a' id dl v' mo sd (pr ++ [x]) := by
  subst hk
  have z5 := h.k5.lt
  have hne : ∀ g, vp.ownBlock = some g → q5 < g := fun g e => h.own.2 g e
  have hK : Keeps (fun g => q5 < g) (W.alloc o) W' := (Keeps.refl _ _).grown happ.2.1 (fun k e _ => hne k e)
  have hK2 : Keeps (fun g => q5 < g) W W' := ((Keeps.refl _ W).alloc o).tr hK
  have ho : Own W' (fun g => q5 < g) 3 1 v' (pr ++ [x]).length (ints (pr ++ [x])) := by
    have := happ.1.more (T' := fun g => q5 < g) fun g _ e => by
      rcases e with e | e
      · exact e
      · subst e; simp; omega
    rw [List.length_append, show ints (pr ++ [x]) = ints pr ++ [.int .i64 x] by simp [ints]]
    exact this
  refine h.far (S := fun g => q5 ≤ g) ((hK2.mono fun i _ hi => Nat.le_of_lt hi).trans (keeps_one W' q5 2 v') (fun i _ e => by omega)) (fun g e => e) ?_ (ho.setCell (p := ⟨q5, 2, none⟩) (Nat.lt_irrefl _) _)
  exact (hK2.blk h.k5 (Nat.lt_irrefl _)).set_ 2 _
/-- cells of the request behind an append -/
theorem RqS.kept (h : RqS w W p A n c l V q3 q4 q5 a' id dl vp mo sd pr) {v' : Value} {k : Nat} {xs : List Value} (o : Obj) (happ : Appended (W.alloc o) W' (fun g => q5 < g) 3 1 vp v' k xs) : Blk W' q5 41 #[.int .i64 id, .int .i64 dl, vp, .int .i64 mo, .int .i64 sd] := by
  have hne : ∀ g, vp.ownBlock = some g → q5 < g := fun g e => h.own.2 g e
  have hK : Keeps (fun g => q5 < g) (W.alloc o) W' := (Keeps.refl _ _).grown happ.2.1 (fun k e _ => hne k e)
  exact hK.blk (h.alloc o).k5 (Nat.lt_irrefl _)
end

theorem y3233 {y : Int} (h : y ∈ [(32 : Int), 33]) : 0 ≤ y ∧ y ≤ 33 := by
  simp only [List.mem_cons, List.not_mem_nil, or_false] at h
  omega
theorem Slc.take {w : World} {T : Nat → Prop} {A : Option Addr} {n c : Nat} {xs : List Int} (h : Slc w T (.slice A n c) xs) (k : Nat) (hk : k ≤ n) : Slc w T (.slice A k c) (xs.take k) := by
  obtain ⟨A', c', e, h1, h2, h3, h4⟩ := h
  injection e with e1 e2 e3
  subst e1 e2 e3
  have hl : (xs.take k).length = k := by rw [List.length_take]; omega
  refine ⟨A, c, by rw [hl], ?_, by omega, h3, fun hA => ?_⟩
  · have := h1.take hk
    rw [hl]
    rw [Nat.mul_one, show (ints xs).take k = ints (xs.take k) by simp [ints, List.map_take]] at this
    exact this
  · have := h4 hA
    rw [hl]
    omega
/-- The state at the end of Request. -/
structure RqF (w W : World) (p : Nat) (A : Option Addr) (n c : Nat) (l : List Int) (q4 q5 : Nat) (a' id dl : Int) (vp : Value) (mo sd : Int) (pr : List Int) : Prop where
  str : Str W p A n c l a'
  kp : Keeps (· = p) w W
  k4 : Blk W q4 41 #[.int .i64 0, .int .i64 0, .slice none 0 0, .int .i64 0, .int .i64 0]
  k5 : Blk W q5 41 #[.int .i64 id, .int .i64 dl, vp, .int .i64 mo, .int .i64 sd]
  slc : Slc W (fun g => q5 < g) vp pr
  lp : p < w.heap.size
  l4 : w.heap.size ≤ q4
  l45 : q4 < q5
  s0 : ∃ a0, Str w p A n c l a0
theorem RqS.fin {w W : World} {p : Nat} {A : Option Addr} {n c : Nat} {l : List Int} {V q3 q4 q5 : Nat} {a' id dl : Int} {vp : Value} {mo sd : Int} {pr : List Int} (h : RqS w W p A n c l V q3 q4 q5 a' id dl vp mo sd pr) : RqF w W p A n c l q4 q5 a' id dl vp mo sd pr :=
  ⟨h.str, h.kp, h.k4, h.k5, h.own.slc, h.lp, by have := h.l3; have := h.l34; omega, h.l45, h.s0⟩
theorem RqS.finSlice {w W : World} {p : Nat} {A : Option Addr} {n c : Nat} {l : List Int} {V q3 q4 q5 : Nat} {a' id dl : Int} {vp : Value} {mo sd : Int} {pr : List Int} (h : RqS w W p A n c l V q3 q4 q5 a' id dl vp mo sd pr) {v' : Value} {pr' : List Int} (hs : Slc W (fun g => q5 < g) v' pr') : RqF w (W.setCell ⟨q5, 2, none⟩ v') p A n c l q4 q5 a' id dl v' mo sd pr' := by
  have := h.l3
  have := h.l34
  have := h.l45
  have := h.lp
  have hk := keeps_one W q5 2 v'
  obtain ⟨a0, s0⟩ := h.s0
  have kp : Keeps (· = p) w (W.setCell ⟨q5, 2, none⟩ v') := h.kp.trans hk (fun i hi e => by omega)
  exact ⟨s0.again kp (hk.blk h.str.blk (by omega)) h.str.at0, kp, hk.blk h.k4 (by omega), h.k5.set_ 2 _, hs.keeps hk (fun i hi => by omega), h.lp, by omega, h.l45, h.s0⟩

set_option maxRecDepth 100000 in
set_option maxHeartbeats 4000000 in
theorem request_any (w : World) (p : Nat) (A : Option Addr) (n c : Nat) (l : List Int) (a : Int) (h : Str w p A n c l a) (ha : a ≤ 1000000) (M : Model) (v4 v5 v6 v7 v8 v9 v10 : Value) (hv : 1 ≤ M.vocab ∧ M.vocab ≤ 1000) :
    Calls Tryz.prog 31 #[.pointer (some ⟨p, 0, none⟩), .agg #[.int .i64 M.kind, .int .i64 M.vocab, .int .i64 M.width, .int .i64 M.top, v4, v5, v6, v7, v8, v9, v10]] w (AskPost w p A n c l a 40 fun r => r.id ≤ 9 ∧ 0 ≤ r.deadline ∧ r.deadline ≤ 8 ∧ r.prompt.length ≤ 100) := by
  obtain ⟨hv1, hv2⟩ := hv
  have hp := h.blk.lt
  have h0 := (h.alloc (.cells #[.int .i64 M.kind, .int .i64 M.vocab, .int .i64 M.width, .int .i64 M.top, v4, v5, v6, v7, v8, v9, v10] 27)).alloc (.cells #[.int .i64 0, .int .i64 0, .slice none 0 0, .int .i64 0, .int .i64 0] 41)
  have k0 := (Blk.new w 27 #[.int .i64 M.kind, .int .i64 M.vocab, .int .i64 M.width, .int .i64 M.top, v4, v5, v6, v7, v8, v9, v10]).alloc (.cells #[.int .i64 0, .int .i64 0, .slice none 0 0, .int .i64 0, .int .i64 0] 41)
  have l0 := Blk.new (w.alloc (.cells #[.int .i64 M.kind, .int .i64 M.vocab, .int .i64 M.width, .int .i64 M.top, v4, v5, v6, v7, v8, v9, v10] 27)) 41 #[.int .i64 0, .int .i64 0, .slice none 0 0, .int .i64 0, .int .i64 0]
  have kk0 : Keeps (· = p) w ((w.alloc (.cells #[.int .i64 M.kind, .int .i64 M.vocab, .int .i64 M.width, .int .i64 M.top, v4, v5, v6, v7, v8, v9, v10] 27)).alloc (.cells #[.int .i64 0, .int .i64 0, .slice none 0 0, .int .i64 0, .int .i64 0] 41)) := ((Keeps.refl _ _).alloc _).alloc _
  simp only [World.size_alloc] at l0
  have HS := Lib.hid h
  have H0 := Lib.hid h0
  have K0 := Lib.hid k0
  have L0 := Lib.hid l0
  have KK0 := Lib.hid kk0
  clear h h0 k0 l0 kk0
  go_enter Tryz.func31, Tryz.ntmps31
  go_wp2_with fail
  refine (range_any _ p A n c l a _ _ H0.out (by omega) (by omega) (by omega) (by omega)).mono ?_
  rintro e w1 ⟨id, a1, rfl, ⟨i1, i2⟩, g1, g1', hs1, k1⟩
  have HS1 := Lib.hid hs1
  have KK1 := Lib.hid (KK0.out.tr k1)
  have K1 := Lib.hid (k1.blk K0.out (by omega))
  have L1 := Lib.hid (k1.blk L0.out (by omega))
  clear hs1 k1
  go_wp2_with fail
  refine (next_any _ p A n c l a1 _ HS1.out (by omega) (by omega)).mono ?_
  rintro e w2 ⟨dl, a2, rfl, ⟨d1, d2, -⟩, g2, g2', hs2, k2⟩
  have d3 := d2 (by omega)
  have HS2 := Lib.hid hs2
  have KK2 := Lib.hid (KK1.out.tr k2)
  have K2 := Lib.hid (k2.blk K1.out (by omega))
  have L2 := Lib.hid (k2.blk L1.out (by omega))
  clear hs2 k2 d2
  go_wp2_with fail
  refine (range_any _ p A n c l a2 _ _ HS2.out (by omega) (by omega) (by omega) (by omega)).mono ?_
  rintro e w3 ⟨mo, a3, rfl, ⟨m1, m2⟩, g3, g3', hs3, k3⟩
  have HS3 := Lib.hid hs3
  have KK3 := Lib.hid (KK2.out.tr k3)
  have K3 := Lib.hid (k3.blk K2.out (by omega))
  have L3 := Lib.hid (k3.blk L2.out (by omega))
  clear hs3 k3
  go_wp2_with fail
  refine (word_any _ p A n c l a3 HS3.out (by omega)).mono ?_
  rintro e w4 ⟨sd, a4, rfl, ⟨s1, s2⟩, g4, g4', hs4, k4⟩
  have hx := (k4.blk L3.out (by omega)).lt
  have hR : RqS w (w4.alloc (.cells #[.int .i64 id, .int .i64 dl, .slice none 0 0, .int .i64 mo, .int .i64 sd] 41)) p A n c l M.vocab w.heap.size (w.heap.size + 1) w4.heap.size a4 id dl (.slice none 0 0) mo sd [] :=
    ⟨⟨a, HS.out⟩, hs4.alloc _, (KK3.out.tr k4).alloc _, ((k4.blk K3.out (by omega)).alloc _).cell 1, (k4.blk L3.out (by omega)).alloc _, Blk.new _ _ _, Own.nil_ _ _ _ _, hp, Nat.le_refl _, by omega, by omega⟩
  have HR := Lib.hid hR
  have h5 := hR.str
  clear hs4 k4 HS1 HS2 HS3 KK0 KK1 KK2 KK3 K0 K1 K2 K3 L0 L1 L2 L3 H0 hR
  go_wp2_with fail
  refine (range_any _ p A n c l a4 _ _ HR.out.str (by omega) (by omega) (by omega) (by omega)).mono ?_
  rintro e w5 ⟨cnt, a5, rfl, ⟨t1, t2⟩, g5, g5', hs5, k5⟩
  have HR5 := Lib.hid (HR.out.moved hs5 k5)
  obtain ⟨i0, hi0, hz0, hz1, hz2⟩ := info_parts int_info
  clear hs5 k5 h5 HR hx
  go_wp2_with fail
  go_loopw [17] (fun x wr => ∃ (k : Nat) (a6 : Int) (vp : Value) (pr : List Int), (k : Int) ≤ cnt ∧ x = .int .i64 k ∧ pr.length = k ∧ RqS w wr p A n c l M.vocab w.heap.size (w.heap.size + 1) w4.heap.size a6 id dl vp mo sd pr ∧ a ≤ a6 ∧ a6 ≤ a + 8 + k) (fun x _ => cnt.toNat - (intOf x).toNat)
  case atStart => exact ⟨0, a5, .slice none 0 0, [], by omega, rfl, rfl, HR5.out, by omega, by omega⟩
  obtain ⟨k, a6, vp, pr, hk, rfl, hpr, hR, g6, g6'⟩ := hrel
  obtain ⟨B, cb, rfl, hcb1, hcb2⟩ := hR.own.shape
  rw [hpr] at hR hcb1
  have hpr32 : k ≤ 5 := by omega
  by_cases hlt : (k : Int) < cnt
  · have e2 : wr.cell? ⟨w4.heap.size, 2, none⟩ = some (.slice B k cb) := hR.k5.cell 2
    have f2 := hR.k5.frozen 2
    have e1 := hR.k3
    have HR6 := Lib.hid hR
    have HPR := Lib.hid hpr
    clear hR hpr HR5 hcb1 hcb2
    go_wp2_with fail
    go_region_law ((first
      | (go_simp; go_at_call 20; refine (next_any _ p A n c l a6 _ HR6.out.str.drew (by omega) (by omega)).mono ?_; rintro e w7 ⟨y, a7, rfl, ⟨y1, y2, -⟩, g7, g7', hs7, k7⟩; have HR7 := Lib.hid (HR6.out.drew.moved hs7 k7); have hown := HR7.out.own; rw [HPR.out] at hown; have c7 : w7.cell? ⟨w4.heap.size, 2, none⟩ = some (.slice B k cb) := HR7.out.k5.cell 2; have c7a : (w7.alloc (.cells #[.int .i64 y] 3)).cell? ⟨w4.heap.size, 2, none⟩ = some (.slice B k cb) := (HR7.out.alloc _).k5.cell 2; try dsimp only)
      | (refine step_append_any _ (by rfl) _ _ 22 (by rfl) 3 i0 _ 1 8 Tryz.underlying22 hi0 hz0 hz1 hz2 rfl (by omega) (.slice B k cb) k (ints pr) (by rfl) (hown.alloc _) _ 1 1 _ (by rfl) (reads_new _ _ [y] 1 rfl) (ints_one _) (by unfold maxLen; omega) (by omega) ?_; intro v' w8 happ; obtain ⟨A8, c8, rfl, -, -⟩ := happ.1.shape; have k8 := (HR7.out.kept _ happ); have d2 := k8.cell 2; have d2f := k8.frozen 2)))
    all_goals (
      have HAP := Lib.hid happ
      clear happ k8 d2 d2f hown c7 c7a
      go_wp2_with fail
      go_roundw
      case rel => exact ⟨k + 1, a7, _, pr ++ [y], by omega, by go_num, by rw [List.length_append, HPR.out]; rfl, HR7.out.push HPR.out.symm _ HAP.out, by omega, by omega⟩
      case measure => simp [intOf]; omega)
  · have HR6 := Lib.hid hR
    have HPR := Lib.hid hpr
    have h6 := hR.str
    clear hR hpr HR5 hcb1 hcb2 hi0 hz0 hz1 hz2 i0
    go_wp2_with fail
    refine (next_any _ p A n c l a6 _ HR6.out.str (by omega) (by omega)).mono ?_
    rintro e w6 ⟨sw, a7, rfl, ⟨x1, x2, -⟩, g7, g7', hs7, k7⟩
    have x3 := x2 (by omega)
    have HR7 := Lib.hid (HR6.out.moved hs7 k7)
    clear x2 hs7 k7 HR6 h6
    go_upto_block 2 with (fail)
    go_cut [] (fun wc => ∃ (a8 : Int) (vp : Value) (mo sd : Int) (pr : List Int), pr.length ≤ 100 ∧ RqF w wc p A n c l (w.heap.size + 1) w4.heap.size a8 id dl vp mo sd pr ∧ a ≤ a8 ∧ a8 ≤ a + 30)
    case first =>
      have hpr5 : pr.length ≤ 5 := by rw [HPR.out]; exact hpr32
      by_cases t0 : sw = 0
      · have z0 : (sw == 0) = true := by simp [t0]
        clear t0
        go_wp2_with fail
        refine (pick_lit w6 p A n c l a7 HR7.out.str (by omega) [0, 32, 33, -1] 4 rfl (by omega) (by omega) _ rfl _ rfl).mono ?_
        rintro e w7 ⟨z, a8, rfl, mz, z1, z2, hs8, k8⟩
        have HR8 := Lib.hid (HR7.out.moved hs8 k8)
        have c3 : w7.cell? ⟨w4.heap.size, 3, none⟩ = some (.int .i64 mo) := HR8.out.k5.cell 3
        have f3 := HR8.out.k5.frozen 3
        clear hs8 k8 mz
        go_wp2_with fail
        go_meet
        case rel => exact ⟨a8, _, z, sd, pr, by omega, (HR8.out.setMost z).fin, by omega, by omega⟩
      by_cases t1 : sw = 1
      · have z1 : (sw == 1) = true := by simp [t1]
        clear t1
        go_wp2_with fail
        refine (int_any w6 p A n c l a7 HR7.out.str (by omega)).mono ?_
        rintro e w7 ⟨z, a8, rfl, mz, z1, z2, hs8, k8⟩
        have HR8 := Lib.hid (HR7.out.moved hs8 k8)
        have c4 : w7.cell? ⟨w4.heap.size, 4, none⟩ = some (.int .i64 sd) := HR8.out.k5.cell 4
        have f4 := HR8.out.k5.frozen 4
        clear hs8 k8 mz
        go_wp2_with fail
        go_meet
        case rel => exact ⟨a8, _, mo, z, pr, by omega, (HR8.out.setSeed z).fin, by omega, by omega⟩
      by_cases t2 : sw = 2
      · have z2 : (sw == 2) = true := by simp [t2]
        clear t2
        have c2 : w6.cell? ⟨w4.heap.size, 2, none⟩ = some (.slice B k cb) := HR7.out.k5.cell 2
        have f2 := HR7.out.k5.frozen 2
        go_wp2_with fail
        go_meet
        case rel => exact ⟨a7, .slice none 0 0, mo, sd, [], by simp, (HR7.out.setPrompt (pr' := []) (Own.nil_ _ _ _ _)).fin, by omega, by omega⟩
      by_cases t3 : sw = 3
      · have z3 : (sw == 3) = true := by simp [t3]
        clear t3
        have c2 : w6.cell? ⟨w4.heap.size, 2, none⟩ = some (.slice B k cb) := HR7.out.k5.cell 2
        have f2 := HR7.out.k5.frozen 2
        have e1 := HR7.out.k3
        have c2a : (w6.alloc (.cells #[.int .i64 M.vocab, .int .i64 (-1)] 3)).cell? ⟨w4.heap.size, 2, none⟩ = some (.slice B k cb) := (HR7.out.alloc _).k5.cell 2
        obtain ⟨i0, hi0, hz0, hz1, hz2⟩ := info_parts int_info
        go_wp2_with fail
        go_region_law ((first
          | (refine step_append_any _ (by rfl) _ _ 22 (by rfl) 3 i0 _ 1 8 Tryz.underlying22 hi0 hz0 hz1 hz2 rfl (by omega) (.slice B k cb) k (ints pr) (by rfl) (hown.alloc _) _ 1 1 _ (by rfl) (reads_new _ _ [y] 1 rfl) (ints_one _) (by unfold maxLen; omega) (by omega) ?_; intro v' w8 happ; obtain ⟨A8, c8, rfl, -, -⟩ := happ.1.shape; have k8 := (HR8.out.kept _ happ); have d2 := k8.cell 2; have d2f := k8.frozen 2)
          | (go_simp; go_at_call 26; refine (pick_lit w6.drew p A n c l a7 HR7.out.str.drew (by omega) [(M.vocab : Int), -1] 2 rfl (by omega) (by omega) _ rfl _ rfl).mono ?_; rintro e w7 ⟨y, a8, rfl, my, g8, g8', hs8, k8⟩; have HR8 := Lib.hid (HR7.out.drew.moved hs8 k8); have hown := HR8.out.own; rw [HPR.out] at hown; have c7 : w7.cell? ⟨w4.heap.size, 2, none⟩ = some (.slice B k cb) := HR8.out.k5.cell 2; have c7a : (w7.alloc (.cells #[.int .i64 y] 3)).cell? ⟨w4.heap.size, 2, none⟩ = some (.slice B k cb) := (HR8.out.alloc _).k5.cell 2; try dsimp only)))
        all_goals (
          have HAP := Lib.hid happ
          clear happ k8 d2 d2f hown c7 c7a hs8
          go_wp2_with fail
          go_meet
          case rel => exact ⟨a8, _, mo, sd, pr ++ [y], by rw [List.length_append]; simp; omega, (HR8.out.push HPR.out.symm _ HAP.out).fin, by omega, by omega⟩)
      by_cases t4 : sw = 4
      · have z4 : (sw == 4) = true := by simp [t4]
        have n0 : (sw == 0) = false := by simpa using t0
        have n1 : (sw == 1) = false := by simpa using t1
        have n2 : (sw == 2) = false := by simpa using t2
        have n3 : (sw == 3) = false := by simpa using t3
        clear t0 t1 t2 t3 t4
        obtain ⟨i0, hi0, hz0, hz1, hz2⟩ := info_parts int_info
        go_wp2_with fail
        go_loopg [] (33 - k) (fun g wr => ∃ (q : Nat) (vp : Value) (pr : List Int), q + g = 33 ∧ pr.length = q ∧ RqS w wr p A n c l M.vocab w.heap.size (w.heap.size + 1) w4.heap.size a7 id dl vp mo sd pr)
        case atStart => exact ⟨k, _, pr, by omega, HPR.out, HR7.out⟩
        obtain ⟨q, vp2, pr2, hq, hpr2, hR8⟩ := hrel
        obtain ⟨B2, cb2, rfl, hd1, hd2⟩ := hR8.own.shape
        rw [hpr2] at hR8 hd1
        have c2 : wr.cell? ⟨w4.heap.size, 2, none⟩ = some (.slice B2 q cb2) := hR8.k5.cell 2
        have f2 := hR8.k5.frozen 2
        have hown := hR8.own
        rw [hpr2] at hown
        have c2a : (wr.alloc (.cells #[.int .i64 0] 3)).cell? ⟨w4.heap.size, 2, none⟩ = some (.slice B2 q cb2) := (hR8.alloc _).k5.cell 2
        have HR8 := Lib.hid hR8
        have HPR2 := Lib.hid hpr2
        clear hR8 hpr2
        by_cases hg : gk = 0
        · have hq33 : q = 33 := by omega
          subst hq33
          have hd1 : (33 : Int) ≤ cb2 := by omega
          have c2b : (wr.alloc (.cells #[.int .i64 32, .int .i64 33] 3)).cell? ⟨w4.heap.size, 2, none⟩ = some (.slice B2 33 cb2) := (HR8.out.alloc _).k5.cell 2
          clear c2a
          go_wp2_with fail
          go_region_law ((first
            | (go_simp; go_at_call 26; refine (pick_lit wr.drew p A n c l a7 HR8.out.str.drew (by omega) [32, 33] 2 rfl (by omega) (by omega) _ rfl _ rfl).mono ?_; rintro e w7 ⟨y, a8, rfl, my, g8, g8', hs8, k8⟩; have HR9 := Lib.hid (HR8.out.drew.moved hs8 k8); have c7 : w7.cell? ⟨w4.heap.size, 2, none⟩ = some (.slice B2 33 cb2) := HR9.out.k5.cell 2; have f7 := HR9.out.k5.frozen 2; have y0 : 0 ≤ y := (y3233 my).1; have y33 : y ≤ 33 := (y3233 my).2; have y1 : y ≤ cb2 := Int.le_trans (y3233 my).2 hd1; try dsimp only)))
          all_goals (
            have hp2 := HPR2.out
            have hsl := HR9.out.own.slc.take y.toNat (by omega)
            have hl : (pr2.take y.toNat).length ≤ 100 := by rw [List.length_take]; omega
            have HSL := Lib.hid hsl
            clear hsl hs8 c7 f7
            go_wp2_with fail
            go_meet
            case rel => exact ⟨a8, _, mo, sd, _, hl, HR9.out.finSlice HSL.out, by omega, by omega⟩)
        · have hq33 : (q : Int) < 33 := by omega
          go_wp2_with (first | (at_builtin; go_must (refine wpList_append_any _ rfl _ _ 22 rfl 3 i0 _ 1 8 Tryz.underlying22 hi0 hz0 hz1 hz2 rfl (by omega) (.slice B2 q cb2) _ _ rfl (hown.alloc _) _ 1 1 _ rfl (reads_new _ _ [(0 : Int)] 1 rfl) (ints_one _) (by unfold maxLen; omega) (by omega) ?_); intro v' w8 happ; obtain ⟨A8, c8, rfl, -, -⟩ := happ.1.shape; have k8 := (HR8.out.kept _ happ); have d2 := k8.cell 2; have d2f := k8.frozen 2))
          have HAP := Lib.hid happ
          clear happ k8 d2 d2f hown
          go_roundg (gk - 1)
          case measure => omega
          case rel => exact ⟨q + 1, _, pr2 ++ [0], by omega, by rw [List.length_append, HPR2.out]; rfl, HR8.out.push HPR2.out.symm _ HAP.out⟩
      · go_wp2_with fail
        go_meet
        case rel => exact ⟨a7, _, mo, sd, pr, by omega, HR7.out.fin, by omega, by omega⟩
    case rest =>
      obtain ⟨a8, vp, mo, sd, pr, hpr, hR, g8, g8'⟩ := hcut
      obtain ⟨B, cb, rfl, -⟩ := hR.slc
      have d0 : wc.cell? ⟨w4.heap.size, 0, none⟩ = some (.int .i64 id) := hR.k5.cell 0
      have d1 : wc.cell? ⟨w4.heap.size, 1, none⟩ = some (.int .i64 dl) := hR.k5.cell 1
      have d2 : wc.cell? ⟨w4.heap.size, 2, none⟩ = some (.slice B pr.length cb) := hR.k5.cell 2
      have d3 : wc.cell? ⟨w4.heap.size, 3, none⟩ = some (.int .i64 mo) := hR.k5.cell 3
      have d4 : wc.cell? ⟨w4.heap.size, 4, none⟩ = some (.int .i64 sd) := hR.k5.cell 4
      have e0 : wc.cell? ⟨w.heap.size + 1, 0, none⟩ = some (.int .i64 0) := hR.k4.cell 0
      have e1 : wc.cell? ⟨w.heap.size + 1, 1, none⟩ = some (.int .i64 0) := hR.k4.cell 1
      have e2 : wc.cell? ⟨w.heap.size + 1, 2, none⟩ = some (.slice none 0 0) := hR.k4.cell 2
      have e3 : wc.cell? ⟨w.heap.size + 1, 3, none⟩ = some (.int .i64 0) := hR.k4.cell 3
      have e4 : wc.cell? ⟨w.heap.size + 1, 4, none⟩ = some (.int .i64 0) := hR.k4.cell 4
      have f0 := hR.k4.frozen 0
      have f1 := hR.k4.frozen 1
      have f2 := hR.k4.frozen 2
      have f3 := hR.k4.frozen 3
      have f4 := hR.k4.frozen 4
      have HR := Lib.hid hR
      clear hR HR7 HPR hpr32
      go_wp2_with fail
      have bf := blk5 wc (w.heap.size + 1) 41 _ _ _ _ _ (.int .i64 id) (.int .i64 dl) (.slice B pr.length cb) (.int .i64 mo) (.int .i64 sd) HR.out.k4
      have kf := keeps5 wc (w.heap.size + 1) (.int .i64 id) (.int .i64 dl) (.slice B pr.length cb) (.int .i64 mo) (.int .i64 sd)
      (try simp only [Exit.inBlock, Exit.then])
      refine bodyPost_ret (v := .agg #[.int .i64 id, .int .i64 dl, .slice B pr.length cb, .int .i64 mo, .int .i64 sd]) ?_ ?_ ?_
      · exact results_cell_row (p := 4) (ty := 41) (fn := Tryz.f31) rfl _ _ (w.heap.size + 1) 41 #[.int .i64 id, .int .i64 dl, .slice B pr.length cb, .int .i64 mo, .int .i64 sd] (0, 0) _ rfl bf Tryz.underlying41 rfl rfl
      · rfl
      have kt := HR.out.kp.trans kf (S := (· = p)) (fun i hi h => by omega)
      have h45 := HR.out.l45
      exact ⟨⟨id, dl, pr, mo, sd⟩, _, a8, rfl, ⟨i2, (by show 0 ≤ dl; omega), (by show dl ≤ 8; omega), hpr⟩, (HR.out.slc.keeps kf (fun i hi => by omega)).more (fun g _ hg => by omega), g8, by omega, HS.out.again kt (kf.blk HR.out.str.blk (by omega)) HR.out.str.at0, kt⟩
end Go.Proofs.YtedkfehdfmimoaaGreat

/- Stream.Model: a model that Check takes. -/
import Derived.Test.YtempdomhbfokmaaGreatDoorMz19
import Derived.Deep.RegionLaw
import Derived.Deep.CutBlock
import Derived.Deep.RegionHeld3
import Derived.Deep.DeepCutAuto
import Derived.Laws.ResultCell
import Derived.Laws.Tables
namespace Go.Proofs.YtempdomhbfokmaaGreatDoor
open Go.RowKit

/-- The state inside Model. -/
structure MdS (w W : World) (p : Nat) (A : Option Addr) (n c : Nat) (l : List Int) (r b : Nat) (a' : Int) (cs : Array Value) : Prop where
  s0 : ∃ a0, Str w p A n c l a0
  str : Str W p A n c l a'
  kp : Keeps (· = p) w W
  kr : Blk W r 35 zeroM
  kb : Blk W b 35 cs
  lp : p < w.heap.size
  lr : w.heap.size ≤ r
  lb : r < b
section
variable {w W W' : World} {p : Nat} {A : Option Addr} {n c : Nat} {l : List Int} {r b : Nat} {a' a2 : Int} {cs cs' : Array Value}
theorem MdS.moved (h : MdS w W p A n c l r b a' cs) (hs : Str W' p A n c l a2) (hk : Keeps (· = p) W W') : MdS w W' p A n c l r b a2 cs := by
  have l0 := h.lp
  have l1 := h.lr
  have l2 := h.lb
  exact ⟨h.s0, hs, h.kp.tr hk, hk.blk h.kr (by omega), hk.blk h.kb (by omega), l0, l1, l2⟩
theorem MdS.fresh (h : MdS w W p A n c l r b a' cs) (hb : Below W.heap.size W W') : MdS w W' p A n c l r b a' cs := h.moved (h.str.fresh hb) (Keeps.of_below hb _)
theorem MdS.alloc (h : MdS w W p A n c l r b a' cs) (o : Obj) : MdS w (W.alloc o) p A n c l r b a' cs := h.fresh ((Below.refl _ _).alloc (Nat.le_refl _) o)
theorem MdS.drewN (h : MdS w W p A n c l r b a' cs) (k : Nat) : MdS w (W.drewN k) p A n c l r b a' cs := h.fresh ⟨rfl, rfl, rfl, Nat.le_refl _, fun _ _ => rfl⟩
theorem MdS.drew (h : MdS w W p A n c l r b a' cs) : MdS w W.drew p A n c l r b a' cs := h.drewN 1
/-- a piece that turns only block b and what lies behind it -/
theorem MdS.far {S : Nat → Prop} (h : MdS w W p A n c l r b a' cs) (hk : Keeps S W W') (hS : ∀ g, S g → b ≤ g) (kb' : Blk W' b 35 cs') : MdS w W' p A n c l r b a' cs' := by
  have l0 := h.lp
  have l1 := h.lr
  have l2 := h.lb
  obtain ⟨a0, s0⟩ := h.s0
  have z := h.kb.lt
  have kp : Keeps (· = p) w W' := h.kp.trans hk (fun i hi e => by have := hS i e; omega)
  exact ⟨h.s0, s0.again' kp (hk.blk h.str.blk (fun e => by have := hS p e; omega)) h.str.at0, kp, hk.blk h.kr (fun e => by have := hS _ e; omega), kb', l0, l1, l2⟩
theorem keeps_one' (W : World) (g i : Nat) (u : Value) : Keeps (· = g) W (W.setCell ⟨g, i, none⟩ u) := Keeps.setCell (p := ⟨g, i, none⟩) (Keeps.refl (· = g) W) (fun _ => rfl) _
theorem MdS.set (h : MdS w W p A n c l r b a' cs) (i : Nat) (u : Value) : MdS w (W.setCell ⟨b, i, none⟩ u) p A n c l r b a' (cs.setIfInBounds i u) := h.far (keeps_one' W b i u) (fun g e => by omega) (h.kb.set_ i u)
theorem keeps_two {p b : Nat} {w1 w2 : World} (h : Keeps (fun g => g = p ∨ g = b) w1 w2) (i j : Nat) (u u' : Value) : Keeps (fun g => g = p ∨ g = b) w1 ((w2.setCell ⟨b, i, none⟩ u).setCell ⟨b, j, none⟩ u') :=
  Keeps.setCell (S := fun g => g = p ∨ g = b) (p := ⟨b, j, none⟩) (Keeps.setCell (S := fun g => g = p ∨ g = b) (p := ⟨b, i, none⟩) h (fun _ => Or.inr rfl) u) (fun _ => Or.inr rfl) u'
theorem keeps_left {p b : Nat} {w1 w2 : World} (h : Keeps (· = p) w1 w2) : Keeps (fun g => g = p ∨ g = b) w1 w2 := h.mono fun _ _ e => Or.inl e
theorem setRow_blk3 (w : World) (g : Nat) (t : TypeId) (cells : Array Value) {old : Array Value} (h : Blk w g t old) : Blk (w.setRow g cells) g t cells := by
  exact setRow_heap w g old cells t (0, 0) h
theorem setRow_keeps3 (w : World) (g : Nat) (cells : Array Value) : Keeps (· = g) w (w.setRow g cells) :=
  ⟨rfl, rfl, rfl, Nat.le_of_eq (setRow_size w g cells).symm, fun i _ hn => setRow_other w g i cells hn⟩
theorem rows_mk {W : World} {T : Nat → Prop} {a1 a2 a3 a4 a5 a6 : Value} {l1 l2 l3 l4 l5 l6 : List Int} (h1 : Slc W T a1 l1) (h2 : Slc W T a2 l2) (h3 : Slc W T a3 l3) (h4 : Slc W T a4 l4) (h5 : Slc W T a5 l5) (h6 : Slc W T a6 l6) : Rows W T [a1, a2, a3, a4, a5, a6] [l1, l2, l3, l4, l5, l6] :=
  (((((((Rows.nil_ W T).snoc h1).snoc h2).snoc h3).snoc h4).snoc h5).snoc h6)
theorem rows_get {W : World} {T : Nat → Prop} {a1 a2 a3 a4 a5 a6 : Value} {l1 l2 l3 l4 l5 l6 : List Int} (h : Rows W T [a1, a2, a3, a4, a5, a6] [l1, l2, l3, l4, l5, l6]) : Slc W T a1 l1 ∧ Slc W T a2 l2 ∧ Slc W T a3 l3 ∧ Slc W T a4 l4 ∧ Slc W T a5 l5 ∧ Slc W T a6 l6 := by
  have g : ∀ i (v : Value) (x : List Int), [a1, a2, a3, a4, a5, a6][i]? = some v → [l1, l2, l3, l4, l5, l6][i]? = some x → Slc W T v x := fun i v x hv hx => by
    obtain ⟨hi, e⟩ := List.getElem?_eq_some_iff.1 hx
    obtain ⟨u, hu, hs⟩ := h.2 i hi
    rw [hv] at hu
    injection hu with hu
    rw [hu, ← e]
    exact hs
  exact ⟨g 0 _ _ rfl rfl, g 1 _ _ rfl rfl, g 2 _ _ rfl rfl, g 3 _ _ rfl rfl, g 4 _ _ rfl rfl, g 5 _ _ rfl rfl⟩
/-- a number drawn, appended to a row and stored -/
theorem MdS.push (h : MdS w W p A n c l r b a' cs) {B k f : Nat} {v v' : Value} {xs : List Int} {x : Int} (ho : Own W (fun g => B ≤ g) 3 1 v k (ints xs)) (hbB : b < B) (hB : B ≤ W.heap.size) {W2 W3 : World} (hs2 : Str W2 p A n c l a2) (hk : Keeps (· = p) W W2) {o : Obj}
    (happ : Appended (W2.alloc o) W3 (fun g => B ≤ g) 3 1 v v' (k + 1) (ints xs ++ ints [x])) :
    MdS w (W3.setCell ⟨b, f, none⟩ v') p A n c l r b a2 (cs.setIfInBounds f v') ∧ Own (W3.setCell ⟨b, f, none⟩ v') (fun g => B ≤ g) 3 1 v' (k + 1) (ints (xs ++ [x])) ∧ Keeps (fun g => g = p ∨ g = b ∨ B ≤ g) W (W3.setCell ⟨b, f, none⟩ v') ∧ Blk W3 b 35 cs := by
  have l0 := h.lp
  have l1 := h.lr
  have l2 := h.lb
  have h2 := h.moved hs2 hk
  have ho2 := ho.keeps hk (fun i hi e => by omega)
  have hz := hk.size
  obtain ⟨o1, o2⟩ := appBelow happ (by simp; omega) (fun g hg => ho2.2 g hg)
  have kS : Keeps (fun g => B ≤ g) W2 W3 := ((Keeps.refl _ W2).alloc o).below o2 (fun i _ h => h)
  have kb3 : Blk W3 b 35 cs := kS.blk h2.kb (by omega)
  have h3 : MdS w W3 p A n c l r b a2 cs := h2.far kS (fun g e => by omega) kb3
  have e : ints xs ++ ints [x] = ints (xs ++ [x]) := by simp [ints]
  rw [e] at o1
  refine ⟨h3.set f v', o1.setCell (p := ⟨b, f, none⟩) (by show ¬ B ≤ b; omega) _, ?_, kb3⟩
  exact Keeps.setCell (p := ⟨b, f, none⟩) ((hk.mono (S' := fun g => g = p ∨ g = b ∨ B ≤ g) fun i _ e => Or.inl e).trans kS (fun i _ e => Or.inr (Or.inr e))) (fun _ => Or.inr (Or.inl rfl)) _
end

set_option maxRecDepth 100000 in
set_option maxHeartbeats 8000000 in
theorem smodel_any (w : World) (p : Nat) (A : Option Addr) (n c : Nat) (l : List Int) (a : Int) (h : Str w p A n c l a) (ha : a ≤ 100000) :
    Calls Tryz.prog 11 #[.pointer (some ⟨p, 0, none⟩)] w fun e w' => ∃ (M : Model) (v4 v5 v6 v7 v8 v9 v10 : Value) (a' : Int), e = .returned (.agg #[.int .i64 M.kind, .int .i64 M.vocab, .int .i64 M.width, .int .i64 M.top, v4, v5, v6, v7, v8, v9, v10]) ∧ M.Ok ∧ MSl w' (fun g => w.heap.size ≤ g) M v4 v5 v6 v7 v8 v9 v10 ∧ a ≤ a' ∧ a' ≤ a + 3000 ∧ Str w' p A n c l a' ∧ Keeps (· = p) w w' := by
  obtain ⟨i0, hi0, hz0, hz1, hz2⟩ := info_parts int_info
  have hpz := h.blk.lt
  have hkr := Blk.new w 35 zeroM
  have hs0 := h.alloc (.cells zeroM 35)
  have HS := Lib.hid h
  have HKR := Lib.hid hkr
  have HS0 := Lib.hid hs0
  have hb0 : Below w.heap.size w (w.alloc (.cells zeroM 35)) := (Below.refl _ _).alloc (Nat.le_refl _) _
  have HB0 := Lib.hid hb0
  have HZ0 : Hid ((w.alloc (.cells zeroM 35)).heap.size = w.heap.size + 1) := Lib.hid (by simp)
  unfold zeroM at HKR HS0 HB0 HZ0
  clear h hkr hs0 hb0
  go_enter Tryz.func11, Tryz.ntmps11
  go_wp2_with fail
  generalize w.alloc (.cells #[.int .i64 0, .int .i64 0, .int .i64 0, .int .i64 0, .slice none 0 0, .slice none 0 0, .slice none 0 0, .slice none 0 0, .slice none 0 0, .slice none 0 0, .slice none 0 0] 35) = w0 at *
  have hz0' := HZ0.out
  have HZ := Lib.hid hz0'
  have hz00 : w.heap.size < w0.heap.size := by omega
  clear hz0' HZ0
  refine (range_any w0 p A n c l a 1 3 HS0.out (by omega) (by omega) (by omega) (by omega)).mono ?_
  rintro e w1 ⟨kind, a1, rfl, ⟨k1, k2⟩, g1, g1', hs1, hk1⟩
  have hz1' := hk1.size
  have HS1 := Lib.hid hs1
  have HK1 := Lib.hid hk1
  clear hs1 hk1
  go_wp2_with fail
  refine (pick_lit' w1 p A n c l a1 HS1.out (by omega) [2, 3, 5, 8, 16] 5 rfl (by omega) (by omega) _ rfl _ rfl).mono ?_
  rintro e w2 ⟨voc, a2, rfl, hvoc, g2, g2', hs2, hk2⟩
  have hv2 : 2 ≤ voc ∧ voc ≤ 16 := by simp at hvoc; omega
  have hz2' := hk2.size
  have HS2 := Lib.hid hs2
  have HK2 := Lib.hid (HK1.out.tr hk2)
  clear hs2 hk2 HK1 HS1 hvoc
  go_wp2_with fail
  refine (pick_lit' w2 p A n c l a2 HS2.out (by omega) [1, 2, 3, 4, 5] 5 rfl (by omega) (by omega) _ rfl _ rfl).mono ?_
  rintro e w3 ⟨wid, a3, rfl, hwid, g3, g3', hs3, hk3⟩
  have hw2 : 1 ≤ wid ∧ wid ≤ 5 := by simp at hwid; omega
  have hz3' := hk3.size
  have HS3 := Lib.hid hs3
  have HK3 := Lib.hid (HK2.out.tr hk3)
  obtain ⟨V, hV⟩ : ∃ V : Nat, voc = V := Int.eq_ofNat_of_zero_le (by omega)
  obtain ⟨D, hD⟩ : ∃ D : Nat, wid = D := Int.eq_ofNat_of_zero_le (by omega)
  subst hV hD
  obtain ⟨v1, v2⟩ := hv2
  obtain ⟨d1, d2⟩ := hw2
  have hM3 : MdS w (w3.alloc (.cells #[.int .i64 kind, .int .i64 V, .int .i64 D, .int .i64 0, .slice none 0 0, .slice none 0 0, .slice none 0 0, .slice none 0 0, .slice none 0 0, .slice none 0 0, .slice none 0 0] 35)) p A n c l w.heap.size w3.heap.size a3 #[.int .i64 kind, .int .i64 V, .int .i64 D, .int .i64 0, .slice none 0 0, .slice none 0 0, .slice none 0 0, .slice none 0 0, .slice none 0 0, .slice none 0 0, .slice none 0 0] :=
    ⟨⟨a, HS.out⟩, hs3.alloc _, (((Keeps.of_below HB0.out (· = p)).tr HK3.out)).alloc _, (HK3.out.blk HKR.out (by omega)).alloc _, Blk.new _ _ _, hpz, Nat.le_refl _, by omega⟩
  have HM3 := Lib.hid hM3
  have hb3 : w.heap.size < w3.heap.size := by omega
  clear hs3 hk3 HS2 HK2 HS3 HK3 hwid hM3 HKR HB0 HS0
  go_upto_region 2 with (fail)
  have hM3 := HM3.out
  clear HM3
  generalize w3.alloc (.cells #[.int .i64 kind, .int .i64 V, .int .i64 D, .int .i64 0, .slice none 0 0, .slice none 0 0, .slice none 0 0, .slice none 0 0, .slice none 0 0, .slice none 0 0, .slice none 0 0] 35) = wA at *
  generalize w3.heap.size = b at *
  have m1 : wA.cell? ⟨b, 1, none⟩ = some (.int .i64 V) := hM3.kb.cell 1
  have HM3 := Lib.hid hM3
  clear hM3
  go_wp2_with fail
  refine (range_any wA p A n c l a3 1 _ HM3.out.str (by omega) (by omega) (by omega) (by omega)).mono ?_
  rintro e w4 ⟨tp, a4, rfl, ⟨t1, t2⟩, g4, g4', hs4, hk4⟩
  obtain ⟨T0, hT0⟩ : ∃ T0 : Nat, tp = T0 := Int.eq_ofNat_of_zero_le (by omega)
  subst hT0
  have hM4 := HM3.out.moved hs4 hk4
  have m3 : w4.cell? ⟨b, 3, none⟩ = some (.int .i64 0) := hM4.kb.cell 3
  have f3 := hM4.kb.frozen 3
  have hM5 : MdS w (w4.setCell ⟨b, 3, none⟩ (.int .i64 T0)) p A n c l w.heap.size b a4 #[.int .i64 kind, .int .i64 V, .int .i64 D, .int .i64 T0, .slice none 0 0, .slice none 0 0, .slice none 0 0, .slice none 0 0, .slice none 0 0, .slice none 0 0, .slice none 0 0] := hM4.set 3 (.int .i64 T0)
  have HM5 := Lib.hid hM5
  clear hs4 hk4 HM3 hM4 hM5 m1
  go_upto_region 3 with (fail)
  have hM5 := HM5.out
  clear HM5 m3 f3
  generalize w4.setCell ⟨b, 3, none⟩ (.int .i64 T0) = w5 at *
  have HM5 := Lib.hid hM5
  clear hM5
  go_wp2_with fail
  refine (flip_any w5 p A n c l a4 2 HM5.out.str (by omega) (by omega)).mono ?_
  rintro e w6 ⟨fb, a5, rfl, g5, g5', hs5, hk5⟩
  have HM6 := Lib.hid (HM5.out.moved hs5 hk5)
  clear hs5 hk5 HM5
  go_upto_if 20 with (fail)
  go_cut [] (fun wc => ∃ T : Nat, 1 ≤ T ∧ T ≤ V ∧ MdS w wc p A n c l w.heap.size b a5 #[.int .i64 kind, .int .i64 V, .int .i64 D, .int .i64 T, .slice none 0 0, .slice none 0 0, .slice none 0 0, .slice none 0 0, .slice none 0 0, .slice none 0 0, .slice none 0 0])
  case first =>
    --DEV<
    cases fb with
    | false =>
      go_wp2_with fail
      go_meet
      exact ⟨T0, by omega, by omega, HM6.out⟩
    | true =>
      have m1 : w6.cell? ⟨b, 1, none⟩ = some (.int .i64 V) := HM6.out.kb.cell 1
      have m3 : w6.cell? ⟨b, 3, none⟩ = some (.int .i64 T0) := HM6.out.kb.cell 3
      have f3 := HM6.out.kb.frozen 3
      go_wp2_with fail
      go_meet
      exact ⟨V, by omega, by omega, HM6.out.set 3 (.int .i64 V)⟩
    --DEV>
  case rest =>
    obtain ⟨T, q1, q2, hM⟩ := hcut
    have HM := Lib.hid hM
    clear hM HM6 t1 t2
    go_wp2_with fail
    obtain ⟨B, hB⟩ : ∃ B, B = wc.heap.size := ⟨_, rfl⟩
    have HB := Lib.hid hB
    have hbB : b < B := by rw [hB]; exact HM.out.kb.lt
    clear hB
    go_loopw [24] (fun i wr => ∃ (k : Nat) (v : Value) (xs : List Int) (a' : Int), k ≤ 4 ∧ i = .int .i64 k ∧ xs.length ≤ k ∧ k ≤ xs.length ∧ inRange 1 15 xs ∧ MdS w wr p A n c l w.heap.size b a' #[.int .i64 kind, .int .i64 V, .int .i64 D, .int .i64 T, v, .slice none 0 0, .slice none 0 0, .slice none 0 0, .slice none 0 0, .slice none 0 0, .slice none 0 0] ∧ Own wr (fun g => B ≤ g) 3 1 v k (ints xs) ∧ Keeps (fun g => g = p ∨ g = b ∨ B ≤ g) wc wr ∧ a5 ≤ a' ∧ a' ≤ a5 + k) (fun i _ => 4 - (intOf i).toNat)
    case atStart => exact ⟨0, _, [], a5, by omega, rfl, Nat.le_refl _, Nat.le_refl _, fun x hx => (by cases hx), HM.out, Own.nil_ _ _ _ _, Keeps.refl _ _, by omega, by omega⟩
    obtain ⟨k, v, xs, a6, hk, rfl, hl1, hl2, hx, hM, ho, hkp, g6, g6'⟩ := hrel
    have HX := Lib.hid hx
    have HM6 := Lib.hid hM
    have HO := Lib.hid ho
    have HKP := Lib.hid hkp
    have hwB : B ≤ wr.heap.size := by rw [HB.out]; exact hkp.size
    clear hx hM ho hkp
    by_cases hlt : k < 4
    · skip
      --DEV<
      obtain ⟨Av, cv, rfl, -, -⟩ := HO.out.shape
      have m4 : wr.cell? ⟨b, 4, none⟩ = some (.slice Av k cv) := HM6.out.kb.cell 4
      have hbr : b < wr.heap.size := HM6.out.kb.lt
      have m4' : ∀ o, (wr.drew.alloc o).cell? ⟨b, 4, none⟩ = some (.slice Av k cv) := fun o => (World.cell?_alloc_lt _ o _ (by show b < wr.heap.size; exact hbr)).trans m4
      go_upto_block 1 with (fail)
      go_cut [] (fun wd => ∃ (v' : Value) (x a' : Int), (1 ≤ x ∧ x ≤ 15) ∧ MdS w wd p A n c l w.heap.size b a' #[.int .i64 kind, .int .i64 V, .int .i64 D, .int .i64 T, v', .slice none 0 0, .slice none 0 0, .slice none 0 0, .slice none 0 0, .slice none 0 0, .slice none 0 0] ∧ Own wd (fun g => B ≤ g) 3 1 v' (k + 1) (ints (xs ++ [x])) ∧ Keeps (fun g => g = p ∨ g = b ∨ B ≤ g) wc wd ∧ a6 ≤ a' ∧ a' ≤ a6 + 1)
      case first =>
        go_wp2_with fail
        go_region_law ((first
          | (refine step_append_any _ (by rfl) _ _ 22 (by rfl) 3 i0 _ 1 8 Tryz.underlying22 hi0 hz0 hz1 hz2 rfl (by omega) (.slice Av k cv) k (ints xs) (by rfl) (HO7.out.alloc _) _ 1 1 _ (by rfl) (reads_new _ _ [(x : Int)] 1 rfl) (ints_one _) (by unfold maxLen; omega) (by omega) ?_; intro v' w8 happ; obtain ⟨A8, c8, rfl, -, -⟩ := happ.1.shape; obtain ⟨r1, r2, r3, r4⟩ := HM6.out.push (f := 4) HO.out hbB hwB HS7.out HK7.out happ; have m48 : w8.cell? ⟨b, 4, none⟩ = some (.slice Av k cv) := r4.cell 4; have f48 := r4.frozen 4)
          | (go_simp; go_at_call 18; refine (pick_lit' wr.drew p A n c l a6 HM6.out.str.drew (by omega) [1, 1, 2, 3, 5, 8, 15] 7 rfl (by omega) (by omega) _ rfl _ rfl).mono ?_; rintro e w7 ⟨x, a7, rfl, hxm, g7, g7', hs7, hk7⟩; have HX7 : Hid (1 ≤ x ∧ x ≤ 15) := (by simp at hxm; exact Lib.hid (by omega)); have HK7 : Hid (Keeps (· = p) wr w7) := Lib.hid ⟨hk7.os, hk7.tape, hk7.output, hk7.size, hk7.block⟩; have HS7 := Lib.hid hs7; have HO7 := Lib.hid (HO.out.keeps HK7.out (fun i hi e => by have := HM6.out.lp; have := HM6.out.lr; have := HM6.out.lb; omega)); have m47 : w7.cell? ⟨b, 4, none⟩ = some (.slice Av k cv) := (HM6.out.moved hs7 HK7.out).kb.cell 4; have hb7 : b < w7.heap.size := Nat.lt_of_lt_of_le hbr HK7.out.size; have m47' : ∀ o, (w7.alloc o).cell? ⟨b, 4, none⟩ = some (.slice Av k cv) := (fun o => (World.cell?_alloc_lt _ o _ hb7).trans m47); clear hxm hs7 hk7; try dsimp only)))
        all_goals
          go_wp2_with fail
          go_meet
          exact ⟨.slice A8 (k + 1) c8, x, a7, HX7.out, r1, r2, HKP.out.tr r3, g7, g7'⟩
      case rest =>
        obtain ⟨v', x, a7, hx7, hM7, ho7, hkp7, g7, g7'⟩ := hcut
        have HX7 := Lib.hid hx7
        have HM7 := Lib.hid hM7
        have HO7 := Lib.hid ho7
        have HKP7 := Lib.hid hkp7
        clear hx7 hM7 ho7 hkp7 m4 m4' HM6 HO HKP
        go_wp2_with fail
        go_roundw
        case rel => exact ⟨k + 1, v', xs ++ [x], a7, by omega, by go_num, by simp; omega, by simp; omega, fun y hy => by
          rcases List.mem_append.1 hy with h | h
          · exact HX.out y h
          · simp at h; rw [h]; exact HX7.out, HM7.out, HO7.out, HKP7.out, by omega, by omega⟩
        case measure => simp [intOf]; omega
      --DEV>
    · obtain rfl : k = 4 := by omega
      obtain ⟨cuts, hcuts⟩ : ∃ cuts, cuts = xs := ⟨_, rfl⟩
      have hc4 : cuts.length = 4 := by rw [hcuts]; omega
      have HC4 := Lib.hid hc4
      rw [← hcuts] at HX HO
      have HXC := Lib.hid HX.out
      obtain ⟨Ac, cc, rfl, -, -⟩ := HO.out.shape
      have HS4 : Hid (Slc wr (fun g => b < g ∧ g < wr.heap.size) (.slice Ac 4 cc) cuts) := Lib.hid (HO.out.slc.more fun g hg h => ⟨by omega, hg⟩)
      clear hcuts hc4 HO hl1 hl2 HKP HB hwB hbB
      have m0 : wr.cell? ⟨b, 0, none⟩ = some (.int .i64 kind) := HM6.out.kb.cell 0
      go_upto_block 2 with (fail)
      clear m0
      go_cut [4] (fun mv wd => ∃ mn : Nat, mv = .int .i64 mn ∧ 1 ≤ mn ∧ mn ≤ 4 ∧ (kind = 1 → mn = 3) ∧ (kind = 2 → mn = 2) ∧ Keeps (· = p) wr wd ∧ ∃ a7, a6 ≤ a7 ∧ a7 ≤ a6 + 1 ∧ MdS w wd p A n c l w.heap.size b a7 #[.int .i64 kind, .int .i64 V, .int .i64 D, .int .i64 T, .slice Ac 4 cc, .slice none 0 0, .slice none 0 0, .slice none 0 0, .slice none 0 0, .slice none 0 0, .slice none 0 0])
      case first =>
        --DEV<
        have hk3 : kind = 1 ∨ kind = 2 ∨ kind = 3 := by omega
        rcases hk3 with rfl | rfl | rfl
        · go_wp2_with fail
          go_meet
          exact ⟨3, rfl, by omega, by omega, fun _ => rfl, fun h => by omega, Keeps.refl _ _, a6, by omega, by omega, HM6.out⟩
        · go_wp2_with fail
          go_meet
          exact ⟨2, rfl, by omega, by omega, fun h => by omega, fun _ => rfl, Keeps.refl _ _, a6, by omega, by omega, HM6.out⟩
        · go_wp2_with fail
          refine (range_any wr p A n c l a6 1 4 HM6.out.str (by omega) (by omega) (by omega) (by omega)).mono ?_
          rintro e w7 ⟨mn, a7, rfl, ⟨t1, t2⟩, g7, g7', hs7, hk7⟩
          obtain ⟨mn, rfl⟩ : ∃ k : Nat, mn = k := Int.eq_ofNat_of_zero_le (by omega)
          have HM7 := Lib.hid (HM6.out.moved hs7 hk7)
          have HK7 := Lib.hid hk7
          clear hs7 hk7
          go_wp2_with fail
          go_meet
          exact ⟨mn, rfl, by omega, by omega, fun h => by omega, fun h => by omega, HK7.out, a7, by omega, by omega, HM7.out⟩
        --DEV>
      case rest =>
        obtain ⟨mn, rfl, n1, n2, n3, n4, hkm, a7, g7, g7', hM7⟩ := hcut
        obtain ⟨wd, rfl⟩ : ∃ wd : World, wd = wc := ⟨_, rfl⟩
        have HN3 := Lib.hid n3
        have HN4 := Lib.hid n4
        have HM7 := Lib.hid hM7
        have HS7 := Lib.hid (HS4.out.keeps hkm (fun i hi e => by have := HM6.out.lp; have := HM6.out.lr; have := HM6.out.lb; omega))
        have hwz7 := hkm.size
        obtain ⟨wr0, hwr0⟩ : ∃ z, z = wr.heap.size := ⟨_, rfl⟩
        rw [← hwr0] at HS7 hwz7
        clear n3 n4 hM7 hkm HS4 HM6 hwr0
        obtain ⟨VD, hVD⟩ : ∃ VD, VD = V * D := ⟨_, rfl⟩
        have hVDb : VD ≤ 80 := by rw [hVD]; exact Nat.mul_le_mul (show V ≤ 16 by omega) (show D ≤ 5 by omega)
        have hwVD : IntKind.i64.wrap ((V : Int) * (D : Int)) = (VD : Int) := by
          rw [hVD, Int.natCast_mul]
          exact IntWalk.i64_in _ (by rw [← Int.natCast_mul, ← hVD]; omega)
        have HVD := Lib.hid hVD
        clear hVD
        go_upto_region 15 with (fail)
        go_cut [] (fun we => ∃ (v5 v8 : Value) (l5 l8 : List Int) (a' : Int), (l5.length = VD ∧ inRange (-128) 127 l5 ∧ Slc we (fun g => b < g ∧ g < we.heap.size) v5 l5) ∧ (l8.length = VD ∧ inRange (-128) 127 l8 ∧ Slc we (fun g => b < g ∧ g < we.heap.size) v8 l8) ∧ MdS w we p A n c l w.heap.size b a' #[.int .i64 kind, .int .i64 V, .int .i64 D, .int .i64 T, .slice Ac 4 cc, v5, .slice none 0 0, .slice none 0 0, v8, .slice none 0 0, .slice none 0 0] ∧ Keeps (fun g => g = p ∨ g = b) wd we ∧ a7 ≤ a' ∧ a' ≤ a7 + 4 * VD)
        case first =>
          --DEV<
          have m1 : wd.cell? ⟨b, 1, none⟩ = some (.int .i64 V) := HM7.out.kb.cell 1
          have m2 : wd.cell? ⟨b, 2, none⟩ = some (.int .i64 D) := HM7.out.kb.cell 2
          have hpb : p < b := by have := HM7.out.lp; have := HM7.out.lr; have := HM7.out.lb; omega
          have hbd : b < wd.heap.size := HM7.out.kb.lt
          go_region_held3 (fun w' => w'.cell? ⟨b, 1, none⟩ = some (.int .i64 V) ∧ w'.cell? ⟨b, 2, none⟩ = some (.int .i64 D)) (first | with_reducible exact ⟨z51 _, z52 _⟩ | with_reducible exact ⟨z81 _ _, z82 _ _⟩ | with_reducible exact ⟨z91, z92⟩ | exact ⟨HM9.out.kb.cell 1, HM9.out.kb.cell 2⟩ | exact ⟨HM8.out.kb.cell 1, HM8.out.kb.cell 2⟩ | go_keep) ((first
            | (go_at_call 30; refine (sbytes_any _ p A n c l _ HM8.out.str (by omega) VD (by omega)).mono ?_; rintro e w9 ⟨v8, l8, a9, rfl, e8, x8, o8, g9, g9', hs9, hk9⟩; have HM9 := Lib.hid (HM8.out.moved hs9 hk9); have HO8 := Lib.hid o8; have HX8 := Lib.hid x8; have HK9 := Lib.hid hk9; have HE8 := Lib.hid e8; obtain ⟨A8, c8, rfl, -, -⟩ := o8.shape; have q5 : w9.cell? ⟨b, 5, none⟩ = some (.slice none 0 0) := HM9.out.kb.cell 5; have q8 : w9.cell? ⟨b, 8, none⟩ = some (.slice none 0 0) := HM9.out.kb.cell 8; have z91 : w9.cell? ⟨b, 1, none⟩ = some (.int .i64 V) := HM9.out.kb.cell 1; have z92 : w9.cell? ⟨b, 2, none⟩ = some (.int .i64 D) := HM9.out.kb.cell 2; have z51 : ∀ u, (w9.setCell ⟨b, 5, none⟩ u).cell? ⟨b, 1, none⟩ = some (.int .i64 V) := (fun u => (HM9.out.set 5 u).kb.cell 1); have z52 : ∀ u, (w9.setCell ⟨b, 5, none⟩ u).cell? ⟨b, 2, none⟩ = some (.int .i64 D) := (fun u => (HM9.out.set 5 u).kb.cell 2); have z81 : ∀ u u', ((w9.setCell ⟨b, 5, none⟩ u).setCell ⟨b, 8, none⟩ u').cell? ⟨b, 1, none⟩ = some (.int .i64 V) := (fun u u' => ((HM9.out.set 5 u).set 8 u').kb.cell 1); have z82 : ∀ u u', ((w9.setCell ⟨b, 5, none⟩ u).setCell ⟨b, 8, none⟩ u').cell? ⟨b, 2, none⟩ = some (.int .i64 D) := (fun u u' => ((HM9.out.set 5 u).set 8 u').kb.cell 2); have q5f := HM9.out.kb.frozen 5; have q8f := HM9.out.kb.frozen 8; clear o8 x8 hs9 hk9 e8)
            | (go_at_call 30; refine (sbytes_any _ p A n c l a7 (HM7.out.str.drew) (by omega) VD (by omega)).mono ?_; rintro e w8 ⟨v5, l5, a8, rfl, e5, x5, o5, g8, g8', hs8, hk8⟩; have HK8 : Hid (Keeps (· = p) wd w8) := Lib.hid ⟨hk8.os, hk8.tape, hk8.output, hk8.size, hk8.block⟩; have HM8 := Lib.hid (HM7.out.moved hs8 HK8.out); have HO5 := Lib.hid o5; have HX5 := Lib.hid x5; have HE5 := Lib.hid e5; obtain ⟨A5, c5, rfl, -, -⟩ := o5.shape; clear o5 x5 hs8 hk8 e5)))
          go_wp2_with fail
          go_meet
          have k45 : Keeps (fun g => g = p ∨ g = b) wd ((w9.setCell ⟨b, 5, none⟩ (.slice A5 VD c5)).setCell ⟨b, 8, none⟩ (.slice A8 VD c8)) :=
            keeps_two (keeps_left (HK8.out.tr HK9.out)) 5 8 _ _
          have kb1 : Keeps (fun g => g = p ∨ g = b) w8 ((w9.setCell ⟨b, 5, none⟩ (.slice A5 VD c5)).setCell ⟨b, 8, none⟩ (.slice A8 VD c8)) :=
            keeps_two (keeps_left HK9.out) 5 8 _ _
          have kb2 : Keeps (fun g => g = p ∨ g = b) w9 ((w9.setCell ⟨b, 5, none⟩ (.slice A5 VD c5)).setCell ⟨b, 8, none⟩ (.slice A8 VD c8)) :=
            keeps_two (Keeps.refl _ _) 5 8 _ _
          have hz8 := HK8.out.size
          exact ⟨_, _, l5, l8, a9, ⟨HE5.out, HX5.out, (HO5.out.slc.keeps kb1 (fun i hi e => by have hi' : wd.heap.size ≤ i := hi; omega)).more (fun g hg h => ⟨by have h' : wd.heap.size ≤ g := h; omega, hg⟩)⟩,
            ⟨HE8.out, HX8.out, (HO8.out.slc.keeps kb2 (fun i hi e => by omega)).more (fun g hg h => ⟨by omega, hg⟩)⟩, (HM9.out.set 5 _).set 8 _, k45, by omega, by omega⟩
          --DEV>
        case rest =>
          obtain ⟨v5, v8, l5, l8, a8, h5, h8, hM8, hk8, g8, g8'⟩ := hcut
          obtain ⟨we, rfl⟩ : ∃ we : World, we = wc := ⟨_, rfl⟩
          have H5 := Lib.hid h5
          have H8 := Lib.hid h8
          have HM8 := Lib.hid hM8
          have hwz8 := hk8.size
          have HS8 := Lib.hid ((HS7.out.keeps hk8 (fun i hi e => by have := HM7.out.lp; have := HM7.out.lr; have := HM7.out.lb; omega)).more (T' := fun g => b < g ∧ g < we.heap.size) (fun g hg h => ⟨h.1, by omega⟩))
          clear h5 h8 hM8 hk8 HS7 HM7 hwVD
          obtain ⟨MD, hMD⟩ : ∃ MD, MD = mn * D := ⟨_, rfl⟩
          have hMDb : MD ≤ 20 := by rw [hMD]; exact Nat.mul_le_mul n2 (show D ≤ 5 by omega)
          have hw1 : IntKind.i64.wrap ((mn : Int) * (D : Int)) = (MD : Int) := by
            rw [hMD, Int.natCast_mul]
            exact IntWalk.i64_in _ (by rw [← Int.natCast_mul, ← hMD]; omega)
          obtain ⟨MDD, hMDD⟩ : ∃ MDD, MDD = MD * D := ⟨_, rfl⟩
          have hMDDb : MDD ≤ 100 := by rw [hMDD]; exact Nat.mul_le_mul hMDb (show D ≤ 5 by omega)
          have hw2 : IntKind.i64.wrap ((MD : Int) * (D : Int)) = (MDD : Int) := by
            rw [hMDD, Int.natCast_mul]
            exact IntWalk.i64_in _ (by rw [← Int.natCast_mul, ← hMDD]; omega)
          have HMD := Lib.hid hMD
          have HMDD := Lib.hid hMDD
          have hwx : ∀ x : Nat, x ≤ 16 → IntKind.i64.wrap ((x : Int) * (D : Int)) = ((x * D : Nat) : Int) := fun x hx => by
            have hb : x * D ≤ 16 * 5 := Nat.mul_le_mul hx (show D ≤ 5 by omega)
            rw [Int.natCast_mul]
            exact IntWalk.i64_in _ (by rw [← Int.natCast_mul]; omega)
          have HWX := Lib.hid hwx
          have hxb : ∀ x : Nat, x ≤ 16 → x * D ≤ 80 := fun x hx => Nat.mul_le_mul hx (show D ≤ 5 by omega)
          have HXB := Lib.hid hxb
          clear hMD hMDD hwx hxb
          go_upto_region 16 with (fail)
          go_cut [] (fun wf => ∃ (v6 v7 : Value) (l6 l7 : List Int) (a' : Int), ((∃ t, 1 ≤ t ∧ t ≤ 16 ∧ l6.length = t * D) ∧ inRange (-128) 127 l6 ∧ Slc wf (fun g => b < g ∧ g < wf.heap.size) v6 l6) ∧ (l7.length = MDD ∧ inRange (-128) 127 l7 ∧ Slc wf (fun g => b < g ∧ g < wf.heap.size) v7 l7) ∧ MdS w wf p A n c l w.heap.size b a' #[.int .i64 kind, .int .i64 V, .int .i64 D, .int .i64 T, .slice Ac 4 cc, v5, v6, v7, v8, .slice none 0 0, .slice none 0 0] ∧ Keeps (fun g => g = p ∨ g = b) we wf ∧ a8 ≤ a' ∧ a' ≤ a8 + 400)
          case first =>
            --DEV<
            obtain ⟨A5', N5', c5', rfl⟩ : ∃ A N c, v5 = .slice A N c := by obtain ⟨A, c, h, -⟩ := H5.out.2.2; exact ⟨A, _, c, h⟩
            obtain ⟨A8', N8', c8', rfl⟩ : ∃ A N c, v8 = .slice A N c := by obtain ⟨A, c, h, -⟩ := H8.out.2.2; exact ⟨A, _, c, h⟩
            have m2 : we.cell? ⟨b, 2, none⟩ = some (.int .i64 D) := HM8.out.kb.cell 2
            have hpb : p < b := by have := HM8.out.lp; have := HM8.out.lr; have := HM8.out.lb; omega
            have hbd : b < we.heap.size := HM8.out.kb.lt
            have y2 : ∀ o, (we.drew.alloc o).cell? ⟨b, 2, none⟩ = some (.int .i64 D) := fun o => (World.cell?_alloc_lt _ o _ (by show b < we.heap.size; exact hbd)).trans m2
            go_region_held3 (fun w' => w'.cell? ⟨b, 2, none⟩ = some (.int .i64 D)) (first | with_reducible exact y2 _ | with_reducible exact z62 _ | with_reducible exact z72 _ _ | with_reducible exact z11 | with_reducible exact z10 | with_reducible exact z9 | go_keep) ((first
              | (go_at_call 30; refine (sbytes_any _ p A n c l _ HM10.out.str (by omega) MDD (by omega)).mono ?_; rintro e w11 ⟨v7, l7, a11, rfl, e7, x7, o7, g11, g11', hs11, hk11⟩; have HM11 := Lib.hid (HM10.out.moved hs11 hk11); have HO7 := Lib.hid o7; have HX7 := Lib.hid x7; have HK11 := Lib.hid hk11; have HE7 := Lib.hid e7; obtain ⟨A7, c7, rfl, -, -⟩ := o7.shape; have q6 : w11.cell? ⟨b, 6, none⟩ = some (.slice none 0 0) := HM11.out.kb.cell 6; have q7 : w11.cell? ⟨b, 7, none⟩ = some (.slice none 0 0) := HM11.out.kb.cell 7; have q6f := HM11.out.kb.frozen 6; have q7f := HM11.out.kb.frozen 7; have z11 : w11.cell? ⟨b, 2, none⟩ = some (.int .i64 D) := HM11.out.kb.cell 2; have z62 : ∀ u, (w11.setCell ⟨b, 6, none⟩ u).cell? ⟨b, 2, none⟩ = some (.int .i64 D) := (fun u => (HM11.out.set 6 u).kb.cell 2); have z72 : ∀ u u', ((w11.setCell ⟨b, 6, none⟩ u).setCell ⟨b, 7, none⟩ u').cell? ⟨b, 2, none⟩ = some (.int .i64 D) := (fun u u' => ((HM11.out.set 6 u).set 7 u').kb.cell 2); clear o7 x7 hs11 hk11 e7)
              | (go_at_call 30; refine (sbytes_any _ p A n c l _ HM9.out.str (by omega) XD (by omega)).mono ?_; rintro e w10 ⟨v6, l6, a10, rfl, e6, x6, o6, g10, g10', hs10, hk10⟩; have HK10 := Lib.hid hk10; have HM10 := Lib.hid (HM9.out.moved hs10 hk10); have HO6 := Lib.hid o6; have HX6 := Lib.hid x6; have HE6 := Lib.hid e6; obtain ⟨A6, c6, rfl, -, -⟩ := o6.shape; have z10 : w10.cell? ⟨b, 2, none⟩ = some (.int .i64 D) := HM10.out.kb.cell 2; clear o6 x6 hs10 hk10 e6)
              | (go_at_call 18; refine (pick_lit' we.drew p A n c l a8 HM8.out.str.drew (by omega) [1, 2, 4, 16] 4 rfl (by omega) (by omega) _ rfl _ rfl).mono ?_; rintro e w9 ⟨xv, a9, rfl, hxm, g9, g9', hs9, hk9⟩; have hxv : 1 ≤ xv ∧ xv ≤ 16 := (by simp at hxm; omega); obtain ⟨x, rfl⟩ : ∃ x : Nat, xv = x := Int.eq_ofNat_of_zero_le (by omega); obtain ⟨x1, x2⟩ := hxv; have HK9 : Hid (Keeps (· = p) we w9) := Lib.hid ⟨hk9.os, hk9.tape, hk9.output, hk9.size, hk9.block⟩; have HM9 := Lib.hid (HM8.out.moved hs9 HK9.out); have z9 : w9.cell? ⟨b, 2, none⟩ = some (.int .i64 D) := HM9.out.kb.cell 2; obtain ⟨XD, hXD⟩ : ∃ XD, XD = x * D := ⟨_, rfl⟩; have hwxd : IntKind.i64.wrap ((x : Int) * (D : Int)) = (XD : Int) := (by rw [hXD]; exact HWX.out x (by omega)); have hXDb : XD ≤ 80 := (by rw [hXD]; exact HXB.out x (by omega)); have HXD := Lib.hid hXD; clear hxm hs9 hk9 hXD)))
            all_goals
              go_wp2_with fail
              go_meet
              have kz : Keeps (fun g => g = p ∨ g = b) w11 ((w11.setCell ⟨b, 6, none⟩ (.slice A6 XD c6)).setCell ⟨b, 7, none⟩ (.slice A7 MDD c7)) :=
                keeps_two (Keeps.refl _ _) 6 7 _ _
              have hz9 := HK9.out.size
              have hz10 := HK10.out.size
              have ky : Keeps (fun g => g = p ∨ g = b) w10 ((w11.setCell ⟨b, 6, none⟩ (.slice A6 XD c6)).setCell ⟨b, 7, none⟩ (.slice A7 MDD c7)) := (keeps_left HK11.out).tr kz
              exact ⟨_, _, l6, l7, a11, ⟨⟨x, by omega, by omega, by rw [HE6.out, HXD.out]⟩, HX6.out, (HO6.out.slc.keeps ky (fun i hi e => by omega)).more (fun g hg h => ⟨by omega, hg⟩)⟩,
                ⟨HE7.out, HX7.out, (HO7.out.slc.keeps kz (fun i hi e => by omega)).more (fun g hg h => ⟨by omega, hg⟩)⟩, (HM11.out.set 6 _).set 7 _, (keeps_left (HK9.out.tr HK10.out)).tr ky, by omega, by omega⟩
            --DEV>
          case rest =>
            obtain ⟨v6, v7, l6, l7, a9, h6, h7, hM9, hk9, g9, g9'⟩ := hcut
            obtain ⟨wf, rfl⟩ : ∃ wf : World, wf = wc := ⟨_, rfl⟩
            have H6 := Lib.hid h6
            have H7 := Lib.hid h7
            have HM9 := Lib.hid hM9
            have hwz9 := hk9.size
            have hlp := hM9.lp
            have hlr := hM9.lr
            have hlb := hM9.lb
            have H4' := Lib.hid ((HS8.out.keeps hk9 (fun i hi e => by omega)).more (T' := fun g => b < g ∧ g < wf.heap.size) (fun g hg h => ⟨h.1, by omega⟩))
            have H5' := Lib.hid ((H5.out.2.2.keeps hk9 (fun i hi e => by omega)).more (T' := fun g => b < g ∧ g < wf.heap.size) (fun g hg h => ⟨h.1, by omega⟩))
            have H8' := Lib.hid ((H8.out.2.2.keeps hk9 (fun i hi e => by omega)).more (T' := fun g => b < g ∧ g < wf.heap.size) (fun g hg h => ⟨h.1, by omega⟩))
            clear h6 h7 hM9 hk9 HS8 HM8 hw1 hw2 HWX HXB
            go_wp2_with fail
            refine (pick_lit' wf p A n c l a9 HM9.out.str (by omega) [1, 2, 5, 64] 4 rfl (by omega) (by omega) _ rfl _ rfl).mono ?_
            rintro e wg ⟨sv, a10, rfl, hsm, g10, g10', hs10, hk10⟩
            have hsv : 1 ≤ sv ∧ sv ≤ 64 := by simp at hsm; omega
            obtain ⟨sn, rfl⟩ : ∃ x : Nat, sv = x := Int.eq_ofNat_of_zero_le (by omega)
            obtain ⟨sn1, sn2⟩ := hsv
            have hwz10 := hk10.size
            have HM10 := Lib.hid (HM9.out.moved hs10 hk10)
            have H4 := Lib.hid ((H4'.out.keeps hk10 (fun i hi e => by omega)).more (T' := fun g => b < g ∧ g < wg.heap.size) (fun g hg h => ⟨h.1, by omega⟩))
            have H5s := Lib.hid ((H5'.out.keeps hk10 (fun i hi e => by omega)).more (T' := fun g => b < g ∧ g < wg.heap.size) (fun g hg h => ⟨h.1, by omega⟩))
            have H6s := Lib.hid ((H6.out.2.2.keeps hk10 (fun i hi e => by omega)).more (T' := fun g => b < g ∧ g < wg.heap.size) (fun g hg h => ⟨h.1, by omega⟩))
            have H7s := Lib.hid ((H7.out.2.2.keeps hk10 (fun i hi e => by omega)).more (T' := fun g => b < g ∧ g < wg.heap.size) (fun g hg h => ⟨h.1, by omega⟩))
            have H8s := Lib.hid ((H8'.out.keeps hk10 (fun i hi e => by omega)).more (T' := fun g => b < g ∧ g < wg.heap.size) (fun g hg h => ⟨h.1, by omega⟩))
            clear hs10 hk10 hsm HM9 H4' H5' H8'
            go_wp2_with fail
            obtain ⟨B9, hB⟩ : ∃ B, B = wg.heap.size := ⟨_, rfl⟩
            have hbB : b < B9 := by rw [hB]; exact HM10.out.kb.lt
            have hBW : B9 ≤ wg.heap.size := Nat.le_of_eq hB
            have HB := Lib.hid hB
            clear hB
            go_loopw [81] (fun i wr => ∃ (k : Nat) (v : Value) (xs : List Int) (a' : Int), k ≤ sn ∧ i = .int .i64 k ∧ xs.length ≤ k + 0 ∧ k + 0 ≤ xs.length ∧ inRange 0 1000 xs ∧ MdS w wr p A n c l w.heap.size b a' #[.int .i64 kind, .int .i64 V, .int .i64 D, .int .i64 T, .slice Ac 4 cc, v5, v6, v7, v8, v, .slice none 0 0] ∧ Own wr (fun g => B9 ≤ g) 3 1 v (k + 0) (ints xs) ∧ Keeps (fun g => g = p ∨ g = b ∨ B9 ≤ g) wg wr ∧ a10 ≤ a' ∧ a' ≤ a10 + k) (fun i _ => sn - (intOf i).toNat)
            case atStart => exact ⟨0, _, [], a10, by omega, rfl, Nat.le_refl _, Nat.le_refl _, fun x hx => (by cases hx), HM10.out, Own.nil_ _ _ _ _, Keeps.refl _ _, by omega, by omega⟩
            obtain ⟨k, v, xs, aa, hk, rfl, hl1, hl2, hx, hM, ho, hkp, gg, gg'⟩ := hrel
            have HX := Lib.hid hx
            skip
            have HML := Lib.hid hM
            have HO := Lib.hid ho
            have HKP := Lib.hid hkp
            have hwB : B9 ≤ wr.heap.size := Nat.le_trans hBW hkp.size
            clear hx ho hkp hM
            by_cases hlt : k < sn
            · skip
              --DEV<
              obtain ⟨Av, cv, rfl, -, -⟩ := HO.out.shape
              obtain ⟨A5', N5', c5', rfl⟩ : ∃ A N c, v5 = .slice A N c := by obtain ⟨A, c, h, -⟩ := H5s.out; exact ⟨A, _, c, h⟩
              obtain ⟨A6', N6', c6', rfl⟩ : ∃ A N c, v6 = .slice A N c := by obtain ⟨A, c, h, -⟩ := H6s.out; exact ⟨A, _, c, h⟩
              obtain ⟨A7', N7', c7', rfl⟩ : ∃ A N c, v7 = .slice A N c := by obtain ⟨A, c, h, -⟩ := H7s.out; exact ⟨A, _, c, h⟩
              obtain ⟨A8', N8', c8', rfl⟩ : ∃ A N c, v8 = .slice A N c := by obtain ⟨A, c, h, -⟩ := H8s.out; exact ⟨A, _, c, h⟩
              obtain ⟨kk, hkk⟩ : ∃ kk, kk = k + 0 := ⟨_, rfl⟩
              rw [← hkk] at HO HML
              have hkk2 : kk ≤ 1000 := by omega
              have hbr : b < wr.heap.size := HML.out.kb.lt
              have m4 : wr.cell? ⟨b, 9, none⟩ = some (.slice Av kk cv) := HML.out.kb.cell 9
              have m4' : ∀ o, (wr.drew.alloc o).cell? ⟨b, 9, none⟩ = some (.slice Av kk cv) := fun o => (World.cell?_alloc_lt _ o _ (by show b < wr.heap.size; exact hbr)).trans m4
              have HKK := Lib.hid hkk
              clear hkk
              go_upto_block 4 with (fail)
              go_cut [] (fun wd => ∃ (v' : Value) (x a' : Int), (0 ≤ x ∧ x ≤ 1000) ∧ MdS w wd p A n c l w.heap.size b a' #[.int .i64 kind, .int .i64 V, .int .i64 D, .int .i64 T, .slice Ac 4 cc, .slice A5' N5' c5', .slice A6' N6' c6', .slice A7' N7' c7', .slice A8' N8' c8', v', .slice none 0 0] ∧ Own wd (fun g => B9 ≤ g) 3 1 v' (kk + 1) (ints (xs ++ [x])) ∧ Keeps (fun g => g = p ∨ g = b ∨ B9 ≤ g) wg wd ∧ aa ≤ a' ∧ a' ≤ aa + 1)
              case first =>
                go_wp2_with fail
                go_region_law ((first
                  | (refine step_append_any _ (by rfl) _ _ 22 (by rfl) 3 i0 _ 1 8 Tryz.underlying22 hi0 hz0 hz1 hz2 rfl (by omega) (.slice Av kk cv) kk (ints xs) (by rfl) (HO7.out.alloc _) _ 1 1 _ (by rfl) (reads_new _ _ [(x : Int)] 1 rfl) (ints_one _) (by unfold maxLen; omega) (by omega) ?_; intro v' w8 happ; obtain ⟨A8, c8, rfl, -, -⟩ := happ.1.shape; obtain ⟨r1, r2, r3, r4⟩ := HML.out.push (f := 9) HO.out hbB hwB HS7.out HK7.out happ; have m48 : w8.cell? ⟨b, 9, none⟩ = some (.slice Av kk cv) := r4.cell 9; have f48 := r4.frozen 9)
                  | (go_simp; go_at_call 18; refine (pick_lit' wr.drew p A n c l aa HML.out.str.drew (by omega) [0, 1, 8, 64, 1000] 5 rfl (by omega) (by omega) _ rfl _ rfl).mono ?_; rintro e w7 ⟨x, a7, rfl, hxm, g7, g7', hs7, hk7⟩; have HX7 : Hid (0 ≤ x ∧ x ≤ 1000) := (by simp at hxm; exact Lib.hid (by omega)); have HK7 : Hid (Keeps (· = p) wr w7) := Lib.hid ⟨hk7.os, hk7.tape, hk7.output, hk7.size, hk7.block⟩; have HS7 := Lib.hid hs7; have HO7 := Lib.hid (HO.out.keeps HK7.out (fun i hi e => by omega)); have m47 : w7.cell? ⟨b, 9, none⟩ = some (.slice Av kk cv) := (HML.out.moved hs7 HK7.out).kb.cell 9; have hb7 : b < w7.heap.size := Nat.lt_of_lt_of_le hbr HK7.out.size; have m47' : ∀ o, (w7.alloc o).cell? ⟨b, 9, none⟩ = some (.slice Av kk cv) := (fun o => (World.cell?_alloc_lt _ o _ hb7).trans m47); clear hxm hs7 hk7; try dsimp only)))
                all_goals
                  go_wp2_with fail
                  go_meet
                  exact ⟨.slice A8 (kk + 1) c8, x, a7, HX7.out, r1, r2, HKP.out.tr r3, g7, g7'⟩
              case rest =>
                obtain ⟨v', x, a7, hx7, hM7, ho7, hkp7, g7, g7'⟩ := hcut
                have HX7 := Lib.hid hx7
                have HM7' := Lib.hid hM7
                have HO7 := Lib.hid ho7
                have HKP7 := Lib.hid hkp7
                clear hx7 hM7 ho7 hkp7 m4 m4' HML HO HKP
                go_wp2_with fail
                go_roundw
                case rel => exact ⟨k + 1, v', xs ++ [x], a7, by omega, by go_num, by simp; omega, by simp; omega, fun y hy => by
                  rcases List.mem_append.1 hy with h | h
                  · exact HX.out y h
                  · simp at h; rw [h]; exact HX7.out, HM7'.out, by rw [show k + 1 + 0 = kk + 1 by rw [HKK.out]]; exact HO7.out, HKP7.out, by omega, by omega⟩
                case measure => simp [intOf]; omega
              --DEV>
            · obtain rfl : k = sn := by omega
              obtain ⟨soft, hsoft⟩ : ∃ soft, soft = xs := ⟨_, rfl⟩
              have HSL := Lib.hid (show soft.length = k by rw [hsoft]; omega)
              rw [← hsoft] at HX HO
              have HSX := Lib.hid HX.out
              obtain ⟨As, cs9, rfl, -, -⟩ := HO.out.shape
              have hsub : ∀ g, g < wg.heap.size → ¬ (B9 ≤ g) := fun g hg h => by rw [HB.out] at h; omega
              have H9 := Lib.hid (show Slc wr (fun g => b < g ∧ g < wr.heap.size) (.slice As k cs9) soft from HO.out.slc.more fun g hg h => ⟨by have h' : B9 ≤ g := h; omega, hg⟩)
              have tr : ∀ {v : Value} {x : List Int}, Slc wg (fun g => b < g ∧ g < wg.heap.size) v x → Slc wr (fun g => b < g ∧ g < wr.heap.size) v x := fun h => (h.keeps HKP.out (fun i hi e => by
                have h2 := hsub i hi.2
                rcases e with e | e | e
                · omega
                · omega
                · exact h2 e)).more (fun g hg h => ⟨h.1, hg⟩)
              have HR := Lib.hid (rows_mk (tr H4.out) (tr H5s.out) (tr H6s.out) (tr H7s.out) (tr H8s.out) H9.out)
              obtain ⟨A5', N5', c5', rfl⟩ : ∃ A N c, v5 = .slice A N c := by obtain ⟨A, c, h, -⟩ := H5s.out; exact ⟨A, _, c, h⟩
              obtain ⟨A6', N6', c6', rfl⟩ : ∃ A N c, v6 = .slice A N c := by obtain ⟨A, c, h, -⟩ := H6s.out; exact ⟨A, _, c, h⟩
              obtain ⟨A7', N7', c7', rfl⟩ : ∃ A N c, v7 = .slice A N c := by obtain ⟨A, c, h, -⟩ := H7s.out; exact ⟨A, _, c, h⟩
              obtain ⟨A8', N8', c8', rfl⟩ : ∃ A N c, v8 = .slice A N c := by obtain ⟨A, c, h, -⟩ := H8s.out; exact ⟨A, _, c, h⟩
              obtain ⟨wh, rfl⟩ : ∃ wh : World, wh = wr := ⟨_, rfl⟩
              have hL5 := Lib.hid (And.intro H5.out.1 H5.out.2.1)
              have hL8 := Lib.hid (And.intro H8.out.1 H8.out.2.1)
              have hL6 := Lib.hid (And.intro H6.out.1 H6.out.2.1)
              have hL7 := Lib.hid (And.intro H7.out.1 H7.out.2.1)
              have hbBo := HML.out.kb.lt
              clear tr hsub H4 H5s H6s H7s H8s H9 HO HKP hsoft HB hbB hBW hwB H5 H6 H7 H8 hl1 hl2 HX
              go_wp2_with fail
              refine (range_any wh p A n c l aa 1 40 HML.out.str (by omega) (by omega) (by omega) (by omega)).mono ?_
              rintro e wi ⟨ov, a11, rfl, ⟨o1, o2⟩, g11, g11', hs11, hk11⟩
              have HM11 := Lib.hid (HML.out.moved hs11 hk11)
              have hzi := hk11.size
              have HR11 := Lib.hid ((HR.out.keeps hk11 (fun i hi e => by omega)).more (T' := fun g => b < g ∧ g < wi.heap.size) (fun g hg h => ⟨h.1, by omega⟩))
              have m10 : (wi.alloc (.cells #[.int .i64 ov] 3)).cell? ⟨b, 10, none⟩ = some (.slice none 0 0) := (HM11.out.alloc _).kb.cell 10
              have f10 := (HM11.out.alloc (.cells #[.int .i64 ov] 3)).kb.frozen 10
              have hmj := (HM11.out.alloc (.cells #[.int .i64 ov] 3)).set 10 (.slice (some ⟨wi.heap.size, 0, none⟩) 1 1)
              have hoj : Own ((wi.alloc (.cells #[.int .i64 ov] 3)).setCell ⟨b, 10, none⟩ (.slice (some ⟨wi.heap.size, 0, none⟩) 1 1)) (fun g => wi.heap.size ≤ g) 3 1 (.slice (some ⟨wi.heap.size, 0, none⟩) 1 1) 1 (ints [ov]) :=
                (own_lit wi (fun g => wi.heap.size ≤ g) 3 (ints [ov]) 1 (by decide) rfl (Nat.le_refl _)).setCell (p := ⟨b, 10, none⟩) (by show ¬ _ ≤ b; omega) _
              have hrj : Rows ((wi.alloc (.cells #[.int .i64 ov] 3)).setCell ⟨b, 10, none⟩ (.slice (some ⟨wi.heap.size, 0, none⟩) 1 1)) (fun g => b < g ∧ g < wi.heap.size) _ _ :=
                (HR11.out.alloc _).keeps (keeps_one' _ b 10 _) (fun i hi e => by omega)
              have hzj : wi.heap.size < ((wi.alloc (.cells #[.int .i64 ov] 3)).setCell ⟨b, 10, none⟩ (.slice (some ⟨wi.heap.size, 0, none⟩) 1 1)).heap.size := by simp [World.setCell]
              have HMJ := Lib.hid hmj
              have HOJ := Lib.hid hoj
              have HRJ := Lib.hid hrj
              have HZJ := Lib.hid hzj
              clear hs11 hk11 HM11 HR11 HR HML hmj hoj hrj hzj
              go_upto_region 22 with (fail)
              have hmj := HMJ.out
              have hoj := HOJ.out
              have hrj := HRJ.out
              have hzj := HZJ.out
              clear HMJ HOJ HRJ HZJ m10 f10
              generalize (wi.alloc (.cells #[.int .i64 ov] 3)).setCell ⟨b, 10, none⟩ (.slice (some ⟨wi.heap.size, 0, none⟩) 1 1) = wj at *
              obtain ⟨B10, hB10⟩ : ∃ B, B = wi.heap.size := ⟨_, rfl⟩
              have HMJ : Hid (MdS w wj p A n c l w.heap.size b a11 #[.int .i64 kind, .int .i64 V, .int .i64 D, .int .i64 T, .slice Ac 4 cc, .slice A5' N5' c5', .slice A6' N6' c6', .slice A7' N7' c7', .slice A8' N8' c8', .slice As k cs9, .slice (some ⟨wi.heap.size, 0, none⟩) 1 1]) := Lib.hid hmj
              have HOJ := Lib.hid hoj
              have HRJ := Lib.hid hrj
              have hbi : b < wi.heap.size := by omega
              rw [← hB10] at HMJ HOJ HRJ hzj hbi ⊢
              clear hmj hoj hrj hB10
              go_wp2_with fail
              refine (pick_lit' wj p A n c l a11 HMJ.out.str (by omega) [0, 1, 4, 63] 4 rfl (by omega) (by omega) _ rfl _ rfl).mono ?_
              rintro e wk ⟨onv, a12, rfl, hom, g12, g12', hs12, hk12⟩
              have honv : 0 ≤ onv ∧ onv ≤ 63 := by simp at hom; omega
              obtain ⟨on, rfl⟩ : ∃ x : Nat, onv = x := Int.eq_ofNat_of_zero_le (by omega)
              obtain ⟨on1, on2⟩ := honv
              have hzk := hk12.size
              have HM12 := Lib.hid (HMJ.out.moved hs12 hk12)
              have HO12 := Lib.hid (HOJ.out.keeps hk12 (fun i hi e => by omega))
              have HR12 := Lib.hid (HRJ.out.keeps hk12 (fun i hi e => by omega))
              have hbB : b < B10 := hbi
              have hBW : B10 ≤ wk.heap.size := by omega
              obtain ⟨sn', rfl⟩ : ∃ z : Nat, z = k := ⟨_, rfl⟩
              clear hs12 hk12 hom HMJ HOJ HRJ
              go_wp2_with fail
              go_loopw [99] (fun i wr => ∃ (k : Nat) (v : Value) (xs : List Int) (a' : Int), k ≤ on ∧ i = .int .i64 k ∧ xs.length ≤ k + 1 ∧ k + 1 ≤ xs.length ∧ inRange 0 1000 xs ∧ xs.getD 0 0 ≠ 0 ∧ MdS w wr p A n c l w.heap.size b a' #[.int .i64 kind, .int .i64 V, .int .i64 D, .int .i64 T, .slice Ac 4 cc, .slice A5' N5' c5', .slice A6' N6' c6', .slice A7' N7' c7', .slice A8' N8' c8', .slice As sn' cs9, v] ∧ Own wr (fun g => B10 ≤ g) 3 1 v (k + 1) (ints xs) ∧ Keeps (fun g => g = p ∨ g = b ∨ B10 ≤ g) wk wr ∧ a12 ≤ a' ∧ a' ≤ a12 + k) (fun i _ => on - (intOf i).toNat)
              case atStart => exact ⟨0, _, [ov], a12, by omega, rfl, Nat.le_refl _, Nat.le_refl _, fun x hx => by simp at hx; omega, by show ov ≠ 0; omega, HM12.out, HO12.out, Keeps.refl _ _, by omega, by omega⟩
              obtain ⟨k, v, xs, aa, hk, rfl, hl1, hl2, hx, h0, hM, ho, hkp, gg, gg'⟩ := hrel
              have HX := Lib.hid hx
              have H00 := Lib.hid h0
              have HML := Lib.hid hM
              have HO := Lib.hid ho
              have HKP := Lib.hid hkp
              have hwB : B10 ≤ wr.heap.size := Nat.le_trans hBW hkp.size
              clear hx ho hkp hM h0
              by_cases hlt : k < on
              · skip
                --DEV<
                obtain ⟨Av, cv, rfl, -, -⟩ := HO.out.shape
                obtain ⟨kk, hkk⟩ : ∃ kk, kk = k + 1 := ⟨_, rfl⟩
                rw [← hkk] at HO HML
                have hkk2 : kk ≤ 1000 := by omega
                have hbr : b < wr.heap.size := HML.out.kb.lt
                have m4 : wr.cell? ⟨b, 10, none⟩ = some (.slice Av kk cv) := HML.out.kb.cell 10
                have m4' : ∀ o, (wr.drew.alloc o).cell? ⟨b, 10, none⟩ = some (.slice Av kk cv) := fun o => (World.cell?_alloc_lt _ o _ (by show b < wr.heap.size; exact hbr)).trans m4
                have HKK := Lib.hid hkk
                clear hkk
                go_upto_block 6 with (fail)
                go_cut [] (fun wd => ∃ (v' : Value) (x a' : Int), (0 ≤ x ∧ x ≤ 1000) ∧ MdS w wd p A n c l w.heap.size b a' #[.int .i64 kind, .int .i64 V, .int .i64 D, .int .i64 T, .slice Ac 4 cc, .slice A5' N5' c5', .slice A6' N6' c6', .slice A7' N7' c7', .slice A8' N8' c8', .slice As sn' cs9, v'] ∧ Own wd (fun g => B10 ≤ g) 3 1 v' (kk + 1) (ints (xs ++ [x])) ∧ Keeps (fun g => g = p ∨ g = b ∨ B10 ≤ g) wk wd ∧ aa ≤ a' ∧ a' ≤ aa + 1)
                case first =>
                  go_wp2_with fail
                  go_region_law ((first
                    | (refine step_append_any _ (by rfl) _ _ 22 (by rfl) 3 i0 _ 1 8 Tryz.underlying22 hi0 hz0 hz1 hz2 rfl (by omega) (.slice Av kk cv) kk (ints xs) (by rfl) (HO7.out.alloc _) _ 1 1 _ (by rfl) (reads_new _ _ [(x : Int)] 1 rfl) (ints_one _) (by unfold maxLen; omega) (by omega) ?_; intro v' w8 happ; obtain ⟨A8, c8, rfl, -, -⟩ := happ.1.shape; obtain ⟨r1, r2, r3, r4⟩ := HML.out.push (f := 10) HO.out hbB hwB HS7.out HK7.out happ; have m48 : w8.cell? ⟨b, 10, none⟩ = some (.slice Av kk cv) := r4.cell 10; have f48 := r4.frozen 10)
                    | (go_simp; go_at_call 18; refine (pick_lit' wr.drew p A n c l aa HML.out.str.drew (by omega) [0, 1, 8, 1000] 4 rfl (by omega) (by omega) _ rfl _ rfl).mono ?_; rintro e w7 ⟨x, a7, rfl, hxm, g7, g7', hs7, hk7⟩; have HX7 : Hid (0 ≤ x ∧ x ≤ 1000) := (by simp at hxm; exact Lib.hid (by omega)); have HK7 : Hid (Keeps (· = p) wr w7) := Lib.hid ⟨hk7.os, hk7.tape, hk7.output, hk7.size, hk7.block⟩; have HS7 := Lib.hid hs7; have HO7 := Lib.hid (HO.out.keeps HK7.out (fun i hi e => by omega)); have m47 : w7.cell? ⟨b, 10, none⟩ = some (.slice Av kk cv) := (HML.out.moved hs7 HK7.out).kb.cell 10; have hb7 : b < w7.heap.size := Nat.lt_of_lt_of_le hbr HK7.out.size; have m47' : ∀ o, (w7.alloc o).cell? ⟨b, 10, none⟩ = some (.slice Av kk cv) := (fun o => (World.cell?_alloc_lt _ o _ hb7).trans m47); clear hxm hs7 hk7; try dsimp only)))
                  all_goals
                    go_wp2_with fail
                    go_meet
                    exact ⟨.slice A8 (kk + 1) c8, x, a7, HX7.out, r1, r2, HKP.out.tr r3, g7, g7'⟩
                case rest =>
                  obtain ⟨v', x, a7, hx7, hM7, ho7, hkp7, g7, g7'⟩ := hcut
                  have HX7 := Lib.hid hx7
                  have HM7' := Lib.hid hM7
                  have HO7 := Lib.hid ho7
                  have HKP7 := Lib.hid hkp7
                  clear hx7 hM7 ho7 hkp7 m4 m4' HML HO HKP
                  go_wp2_with fail
                  go_roundw
                  case rel => exact ⟨k + 1, v', xs ++ [x], a7, by omega, by go_num, by simp; omega, by simp; omega, fun y hy => by
                    rcases List.mem_append.1 hy with h | h
                    · exact HX.out y h
                    · simp at h; rw [h]; exact HX7.out, by rw [List.getD_eq_getElem?_getD, List.getElem?_append_left (by omega), ← List.getD_eq_getElem?_getD]; exact H00.out, HM7'.out, by rw [show k + 1 + 1 = kk + 1 by rw [HKK.out]]; exact HO7.out, HKP7.out, by omega, by omega⟩
                  case measure => simp [intOf]; omega
                --DEV>
              · obtain rfl : k = on := by omega
                obtain ⟨odds, hodds⟩ : ∃ o, o = xs := ⟨_, rfl⟩
                have HOL := Lib.hid (show odds.length = k + 1 by rw [hodds]; omega)
                rw [← hodds] at HX HO H00
                obtain ⟨Ao, co, rfl, -, -⟩ := HO.out.shape
                clear hodds hl1 hl2 hwB
                go_upto_region 26 with (fail)
                refine model_r26 wr w.heap.size b Ac A5' A6' A7' A8' As Ao 4 N5' N6' N7' N8' sn' (k + 1) cc c5' c6' c7' c8' cs9 co kind V D T HML.out.kb HML.out.kr _ _ _ _ _ _ _ _ _ _ _ _ _ _ _ _ _ _ _ _ _ _ _ _ _ _ _ _ _ _ _ _ _ _ _ _ _ _ _ _ _ _ _ _ _ _ _ _ _ _ _ _ _ _ _ _ _ _ _ _ _ _ _ _ _ _ _ _ _ _ _ _ _ _ _ _ _ _ _ _ _ _ _ _ _ _ _ _ _ _ _ _ _ _ _ _ _ _ _ _ _ _ _ _ _ _ _ _ _ _ ?_
                have bf := blk11' wr w.heap.size 35 _ _ _ _ _ _ _ _ _ _ _ (.int .i64 kind) (.int .i64 V) (.int .i64 D) (.int .i64 T) (.slice Ac 4 cc) (.slice A5' N5' c5') (.slice A6' N6' c6') (.slice A7' N7' c7') (.slice A8' N8' c8') (.slice As sn' cs9) (.slice Ao (k + 1) co) HML.out.kr
                have kf := keeps11' wr w.heap.size (.int .i64 kind) (.int .i64 V) (.int .i64 D) (.int .i64 T) (.slice Ac 4 cc) (.slice A5' N5' c5') (.slice A6' N6' c6') (.slice A7' N7' c7') (.slice A8' N8' c8') (.slice As sn' cs9) (.slice Ao (k + 1) co)
                generalize (((((((((((wr.setCell ⟨w.heap.size, 0, none⟩ (.int .i64 kind)).setCell ⟨w.heap.size, 1, none⟩ (.int .i64 V)).setCell ⟨w.heap.size, 2, none⟩ (.int .i64 D)).setCell ⟨w.heap.size, 3, none⟩ (.int .i64 T)).setCell ⟨w.heap.size, 4, none⟩ (.slice Ac 4 cc)).setCell ⟨w.heap.size, 5, none⟩ (.slice A5' N5' c5')).setCell ⟨w.heap.size, 6, none⟩ (.slice A6' N6' c6')).setCell ⟨w.heap.size, 7, none⟩ (.slice A7' N7' c7')).setCell ⟨w.heap.size, 8, none⟩ (.slice A8' N8' c8')).setCell ⟨w.heap.size, 9, none⟩ (.slice As sn' cs9)).setCell ⟨w.heap.size, 10, none⟩ (.slice Ao (k + 1) co)) = wz at bf kf ⊢
                rename_i hlast
                refine hlast _ _ (wp_ret ?_)
                show bodyPost Tryz.prog Tryz.f11 _ Exit.ret _ _
                refine bodyPost_ret (v := .agg #[.int .i64 kind, .int .i64 V, .int .i64 D, .int .i64 T, .slice Ac 4 cc, .slice A5' N5' c5', .slice A6' N6' c6', .slice A7' N7' c7', .slice A8' N8' c8', .slice As sn' cs9, .slice Ao (k + 1) co]) ?_ ?_ ?_
                · exact results_cell_row (p := 2) (ty := 35) (fn := Tryz.f11) rfl _ _ w.heap.size 35 #[.int .i64 kind, .int .i64 V, .int .i64 D, .int .i64 T, .slice Ac 4 cc, .slice A5' N5' c5', .slice A6' N6' c6', .slice A7' N7' c7', .slice A8' N8' c8', .slice As sn' cs9, .slice Ao (k + 1) co] (0, 0) _ rfl bf Tryz.underlying35 rfl rfl
                · rfl
                have hrf := (HR12.out.keeps HKP.out (fun i hi e => by omega)).keeps kf (fun i hi e => by omega)
                obtain ⟨s4, s5, s6, s7, s8, s9⟩ := rows_get (hrf.more (T' := fun g => w.heap.size ≤ g) (fun g _ h => by omega))
                have s10 : Slc _ (fun g => w.heap.size ≤ g) (.slice Ao (k + 1) co) odds := (HO.out.slc.keeps kf (fun i hi e => by omega)).more (fun g _ h => by have h' : B10 ≤ g := h; omega)
                have kt : Keeps (· = p) w _ := HML.out.kp.trans kf (S := (· = p)) (fun i hi h => by omega)
                have hmk : kind = 1 → l7.length = 3 * D * D := fun h => by rw [hL7.out.1, HMDD.out, HMD.out, HN3.out h]
                have hmc : kind = 2 → l7.length = 2 * D * D := fun h => by rw [hL7.out.1, HMDD.out, HMD.out, HN4.out h]
                have hmv : l7.length = mn * (D * D) := by rw [hL7.out.1, HMDD.out, HMD.out, Nat.mul_assoc]
                refine ⟨⟨kind, V, D, T, cuts, l5, l6, l7, l8, soft, odds⟩, _, _, _, _, _, _, _, aa, rfl, ?_, ⟨s4, s5, s6, s7, s8, s9, s10⟩, by omega, by omega, HS.out.again' kt (kf.blk HML.out.str.blk (by omega)) HML.out.str.at0, kt⟩
                exact ⟨⟨k1, k2⟩, (by show 2 ≤ V ∧ V ≤ 16; omega), (by show 1 ≤ D ∧ D ≤ 5; omega), ⟨q1, q2⟩, hmk, hmc, fun _ => ⟨mn, n1, n2, hmv⟩, HC4.out, (by show l5.length = V * D; rw [hL5.out.1, HVD.out]), (by show l8.length = V * D; rw [hL8.out.1, HVD.out]), hL6.out.1, (by show 1 ≤ soft.length ∧ soft.length ≤ 64; rw [HSL.out]; omega), (by show 1 ≤ odds.length ∧ odds.length ≤ 64; rw [HOL.out]; omega), HXC.out, hL5.out.2, hL6.out.2, hL7.out.2, hL8.out.2, HSX.out, HX.out, H00.out⟩
end Go.Proofs.YtempdomhbfokmaaGreatDoor

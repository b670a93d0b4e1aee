/- Check of a valid model. wrap, shift, row, dot, matrix. -/
import Derived.Test.YtempdomhbfokmaaGreatDoorMz3
import Derived.Test.YtempdomhbfokmaaGreatDoorMz4
namespace Go.Proofs.YtempdomhbfokmaaGreatDoor
open Go.RowKit

/-- The seven lists of a model as slices. -/
structure MSl (w : World) (T : Nat → Prop) (M : Model) (v4 v5 v6 v7 v8 v9 v10 : Value) : Prop where
  cuts : Slc w T v4 M.cuts
  embed : Slc w T v5 M.embed
  place : Slc w T v6 M.place
  mix : Slc w T v7 M.mix
  out : Slc w T v8 M.out
  soft : Slc w T v9 M.soft
  odds : Slc w T v10 M.odds
section
variable {w w' : World} {T T' S : Nat → Prop} {M : Model} {v4 v5 v6 v7 v8 v9 v10 : Value}
theorem MSl.keeps (h : MSl w T M v4 v5 v6 v7 v8 v9 v10) (hk : Keeps S w w') (hs : ∀ i, T i → ¬ S i) : MSl w' T M v4 v5 v6 v7 v8 v9 v10 :=
  ⟨h.cuts.keeps hk hs, h.embed.keeps hk hs, h.place.keeps hk hs, h.mix.keeps hk hs, h.out.keeps hk hs, h.soft.keeps hk hs, h.odds.keeps hk hs⟩
theorem MSl.fresh (h : MSl w T M v4 v5 v6 v7 v8 v9 v10) (hk : Below w.heap.size w w') : MSl w' T M v4 v5 v6 v7 v8 v9 v10 :=
  ⟨h.cuts.fresh hk, h.embed.fresh hk, h.place.fresh hk, h.mix.fresh hk, h.out.fresh hk, h.soft.fresh hk, h.odds.fresh hk⟩
theorem MSl.alloc (h : MSl w T M v4 v5 v6 v7 v8 v9 v10) (o : Obj) : MSl (w.alloc o) T M v4 v5 v6 v7 v8 v9 v10 :=
  ⟨h.cuts.alloc o, h.embed.alloc o, h.place.alloc o, h.mix.alloc o, h.out.alloc o, h.soft.alloc o, h.odds.alloc o⟩
theorem MSl.drew (h : MSl w T M v4 v5 v6 v7 v8 v9 v10) : MSl w.drew T M v4 v5 v6 v7 v8 v9 v10 := ⟨h.cuts, h.embed, h.place, h.mix, h.out, h.soft, h.odds⟩
theorem MSl.drewN (h : MSl w T M v4 v5 v6 v7 v8 v9 v10) (n : Nat) : MSl (w.drewN n) T M v4 v5 v6 v7 v8 v9 v10 := ⟨h.cuts, h.embed, h.place, h.mix, h.out, h.soft, h.odds⟩
theorem MSl.old (h : MSl w T M v4 v5 v6 v7 v8 v9 v10) : MSl w (· < w.heap.size) M v4 v5 v6 v7 v8 v9 v10 :=
  ⟨h.cuts.old, h.embed.old, h.place.old, h.mix.old, h.out.old, h.soft.old, h.odds.old⟩
theorem MSl.below {B : Nat} (h : MSl w T M v4 v5 v6 v7 v8 v9 v10) (hb : Below B w w') (hT : ∀ b, T b → b < B) : MSl w' T M v4 v5 v6 v7 v8 v9 v10 :=
  ⟨h.cuts.below hb hT, h.embed.below hb hT, h.place.below hb hT, h.mix.below hb hT, h.out.below hb hT, h.soft.below hb hT, h.odds.below hb hT⟩
theorem MSl.more (h : MSl w T M v4 v5 v6 v7 v8 v9 v10) (hT : ∀ b, b < w.heap.size → T b → T' b) : MSl w T' M v4 v5 v6 v7 v8 v9 v10 :=
  ⟨h.cuts.more hT, h.embed.more hT, h.place.more hT, h.mix.more hT, h.out.more hT, h.soft.more hT, h.odds.more hT⟩
end

theorem sq_bounds (d : Nat) (h : d ≤ 5) : (0 : Int) ≤ d * d ∧ (d : Int) * d ≤ 25 ∧ (0 : Int) ≤ 3 * d * d ∧ (3 : Int) * d * d ≤ 75 ∧ (0 : Int) ≤ 2 * d * d ∧ (2 : Int) * d * d ≤ 50 := by
  have : d = 0 ∨ d = 1 ∨ d = 2 ∨ d = 3 ∨ d = 4 ∨ d = 5 := by omega
  rcases this with rfl | rfl | rfl | rfl | rfl | rfl <;> decide
theorem mul_bounds (a b x y : Nat) (h1 : a ≤ x) (h2 : b ≤ y) : a * b ≤ x * y := Nat.mul_le_mul h1 h2

set_option maxRecDepth 100000 in
set_option maxHeartbeats 800000 in
theorem formed_ok (w : World) (T : Nat → Prop) (M : Model) (v4 v5 v6 v7 v8 v9 v10 : Value) (h : MSl w T M v4 v5 v6 v7 v8 v9 v10) (hM : M.Ok) :
    Calls Tryz.prog 59 #[.agg #[.int .i64 M.kind, .int .i64 M.vocab, .int .i64 M.width, .int .i64 M.top, v4, v5, v6, v7, v8, v9, v10]] w fun e w' => e = .returned (.bool true) ∧ Below w.heap.size w w' := by
  obtain ⟨A4, c4, rfl, -⟩ := h.cuts
  obtain ⟨A5, c5, rfl, -⟩ := h.embed
  obtain ⟨A6, c6, rfl, -⟩ := h.place
  obtain ⟨A7, c7, rfl, -⟩ := h.mix
  obtain ⟨A8, c8, rfl, -⟩ := h.out
  obtain ⟨A9, c9, rfl, -⟩ := h.soft
  obtain ⟨A10, c10, rfl, -⟩ := h.odds
  obtain ⟨hk1, hk2⟩ := hM.kind
  obtain ⟨hv1, hv2⟩ := hM.vocab
  obtain ⟨hw1, hw2⟩ := hM.width
  obtain ⟨tp, hp1, hp2, hp3⟩ := hM.lplace
  obtain ⟨hs1, hs2⟩ := hM.lsoft
  obtain ⟨ho1, ho2⟩ := hM.lodds
  have hcuts := hM.lcuts
  have hemb := hM.lembed
  have hout := hM.lout
  have b1 := mul_bounds _ _ _ _ hv2 hw2
  have b2 := mul_bounds _ _ _ _ hw2 hw2
  have b3 := mul_bounds _ _ _ _ hp2 hw2
  obtain ⟨i1, i2, i3, i4, i5, i6⟩ := sq_bounds _ hw2
  have hA := hM.attend
  have hC := hM.cell
  have hV := hM.conv
  generalize M.kind = kd at *
  generalize M.vocab = vo at *
  generalize M.width = wd at *
  rw [hcuts, hemb, hout, hp3]
  have hk : kd = 1 ∨ kd = 2 ∨ kd = 3 := by omega
  rcases hk with rfl | rfl | rfl
  · rw [hA rfl]
    clear hA hC hV hcuts hemb hout hp3
    go_enter Tryz.func59, Tryz.ntmps59
    go_wp2_with (first | (go_at_call 33; refine (within_yes _ _ _ _ (by omega) (by omega)).mono ?_; rintro e w' ⟨rfl, rfl⟩) | (go_at_call 64; refine (rows_ok _ _ _ _ tp _ (by omega) (by omega) rfl (by omega)).mono ?_; rintro e w' ⟨rfl, rfl⟩))
    go_ret
    exact ⟨rfl, by go_grown⟩
  · rw [hC rfl]
    clear hA hC hV hcuts hemb hout hp3
    go_enter Tryz.func59, Tryz.ntmps59
    go_wp2_with (first | (go_at_call 33; refine (within_yes _ _ _ _ (by omega) (by omega)).mono ?_; rintro e w' ⟨rfl, rfl⟩) | (go_at_call 64; refine (rows_ok _ _ _ _ tp _ (by omega) (by omega) rfl (by omega)).mono ?_; rintro e w' ⟨rfl, rfl⟩))
    go_ret
    exact ⟨rfl, by go_grown⟩
  · obtain ⟨t7, ht1, ht2, ht3⟩ := hV rfl
    rw [ht3]
    have b4 := mul_bounds _ _ _ _ ht2 b2
    clear hA hC hV hcuts hemb hout hp3 ht3
    go_enter Tryz.func59, Tryz.ntmps59
    go_wp2_with fail
    refine (rows_ok _ _ _ (wd * wd) t7 _ (Nat.mul_pos hw1 hw1) (by omega) rfl (by omega)).mono ?_
    rintro e w' ⟨rfl, rfl⟩
    go_wp2_with (first | (go_at_call 33; refine (within_yes _ _ _ _ (by omega) (by omega)).mono ?_; rintro e w' ⟨rfl, rfl⟩) | (go_at_call 64; refine (rows_ok _ _ _ _ tp _ (by omega) (by omega) rfl (by omega)).mono ?_; rintro e w' ⟨rfl, rfl⟩))
    go_ret
    exact ⟨rfl, by go_grown⟩

theorem Model.Ok.weights {M : Model} (hM : M.Ok) : inRange (-128) 127 [M.embed, M.place, M.mix, M.out].flatten ∧ total [M.embed, M.place, M.mix, M.out] ≤ 400 := by
  refine ⟨?_, ?_⟩
  · intro x hx
    simp only [List.flatten_cons, List.flatten_nil, List.append_nil, List.mem_append] at hx
    rcases hx with hx | hx | hx | hx
    · exact hM.embed x hx
    · exact hM.place x hx
    · exact hM.mix x hx
    · exact hM.out x hx
  · have hv := hM.vocab
    have hw := hM.width
    obtain ⟨tp, hp1, hp2, hp3⟩ := hM.lplace
    have b1 := mul_bounds _ _ _ _ hv.2 hw.2
    have b2 := mul_bounds _ _ _ _ hw.2 hw.2
    have b3 := mul_bounds _ _ _ _ hp2 hw.2
    have hm : M.mix.length ≤ 100 := by
      have hk : M.kind = 1 ∨ M.kind = 2 ∨ M.kind = 3 := by have := hM.kind; omega
      rcases hk with h | h | h
      · rw [hM.attend h, Nat.mul_assoc]; omega
      · rw [hM.cell h, Nat.mul_assoc]; omega
      · obtain ⟨t7, ht1, ht2, ht3⟩ := hM.conv h
        have b4 := mul_bounds _ _ _ _ ht2 b2
        omega
    have he := hM.lembed
    have ho := hM.lout
    simp only [total, List.map_cons, List.map_nil, List.sum_cons, List.sum_nil]
    omega

/-- Four slices that a literal has just made into one. -/
theorem rows_four {w : World} {T : Nat → Prop} {t : TypeId} {a b c d : Value} {xa xb xc xd : List Int} (ha : Slc w T a xa) (hb : Slc w T b xb) (hc : Slc w T c xc) (hd : Slc w T d xd) :
    Reads (w.alloc (.cells #[a, b, c, d] t)) (· = w.heap.size) 1 (some ⟨w.heap.size, 0, none⟩) 4 [a, b, c, d] ∧ Rows (w.alloc (.cells #[a, b, c, d] t)) T [a, b, c, d] [xa, xb, xc, xd] := by
  refine ⟨⟨rfl, fun _ => ⟨_, rfl, by simp, rfl, fun j u hu => ?_⟩⟩, ?_⟩
  · have h : Blk (w.alloc (.cells #[a, b, c, d] t)) w.heap.size t #[a, b, c, d] := Blk.new w t _
    rw [Addr.add_lit, h.cell]
    simpa using hu
  · exact ((((Rows.nil_ _ T).snoc (ha.alloc _)).snoc (hb.alloc _)).snoc (hc.alloc _)).snoc (hd.alloc _)

set_option maxRecDepth 100000 in
set_option maxHeartbeats 1000000 in
theorem check_ok (w : World) (T : Nat → Prop) (M : Model) (v4 v5 v6 v7 v8 v9 v10 : Value) (h : MSl w T M v4 v5 v6 v7 v8 v9 v10) (hM : M.Ok) :
    Calls Tryz.prog 32 #[.agg #[.int .i64 M.kind, .int .i64 M.vocab, .int .i64 M.width, .int .i64 M.top, v4, v5, v6, v7, v8, v9, v10]] w fun e w' => e = .returned (.int .i64 0) ∧ Below w.heap.size w w' := by
  obtain ⟨hk1, hk2⟩ := hM.kind
  obtain ⟨hv1, hv2⟩ := hM.vocab
  obtain ⟨hw1, hw2⟩ := hM.width
  obtain ⟨ht1, ht2⟩ := hM.top
  obtain ⟨hW, hW2⟩ := hM.weights
  have hc := hM.lcuts
  have hs := hM.lsoft
  have ho := hM.lodds
  have hl4 : M.cuts.length ≤ 9223372036854775807 := by omega
  obtain ⟨A4, c4, rfl, -⟩ := h.cuts
  obtain ⟨A5, c5, rfl, -⟩ := h.embed
  obtain ⟨A6, c6, rfl, -⟩ := h.place
  obtain ⟨A7, c7, rfl, -⟩ := h.mix
  obtain ⟨A8, c8, rfl, -⟩ := h.out
  obtain ⟨A9, c9, rfl, -⟩ := h.soft
  obtain ⟨A10, c10, rfl, r10, -⟩ := h.odds
  obtain ⟨ad, -, rfl, -, -, -, -⟩ := r10.at_ (k := 0) (by omega)
  obtain ⟨x, hx⟩ : ∃ x, x = M.odds[0] := ⟨_, rfl⟩
  have hx0 : (x == 0) = false := by
    have := hM.odds0
    have h0 : M.odds.getD 0 0 = x := by rw [hx]; simp [List.getD, show 0 < M.odds.length by omega]
    rw [h0] at this
    simpa using this
  clear hc
  go_enter Tryz.func32, Tryz.ntmps32
  go_wp2_with (first
    | (go_at_call 33; refine (within_yes _ _ _ _ (by omega) (by omega)).mono ?_; rintro e w' ⟨rfl, rfl⟩)
    | (go_at_call 58; refine (sized_ok _ _ _ _ (by omega) (by omega) (by omega)).mono ?_; rintro e w' ⟨rfl, rfl⟩))
  refine (formed_ok _ T M _ _ _ _ _ _ _ (h.alloc _) hM).mono ?_
  rintro e w1 ⟨rfl, hb1⟩
  have h1 := (h.alloc _).fresh hb1
  have k1 := (Blk.new w 35 _).below hb1 (by simp)
  have b1 : Below w.heap.size w w1 := ((Below.refl _ _).alloc (Nat.le_refl _) _).trans (hb1.mono (by simp))
  clear hb1
  have z1 := k1.lt
  have q1 := k1.cell
  go_wp2_with fail
  obtain ⟨hr4, hq4⟩ := rows_four h1.embed h1.place h1.mix h1.out (t := 22)
  refine (concat_any _ _ _ _ _ _ _ _ hr4 hq4 (by decide) (by omega)).mono ?_
  rintro e w2 ⟨v, rfl, hown, hb2⟩
  obtain ⟨A, c, rfl, -⟩ := hown.shape
  have h2 := (h1.alloc _).fresh hb2
  have k2 := (k1.alloc _).below hb2 (by simp; omega)
  have b2 : Below w.heap.size w w2 := (b1.alloc b1.size _).trans (hb2.mono (by simp; omega))
  clear hb2 b1 q1 k1 h1 hr4 hq4
  have z2 := k2.lt
  have q2 := k2.cell
  go_wp2_with fail
  refine (all_slc _ _ _ _ _ _ h2.cuts hM.cuts).mono ?_
  rintro e w3 ⟨rfl, hb3⟩
  have h3 := h2.fresh hb3
  have hown3 := hown.fresh hb3
  have k3 := k2.below hb3 z2
  have b3 : Below w.heap.size w w3 := b2.trans (hb3.mono b2.size)
  clear hb3 b2 q2 k2 h2 hown
  have z3 := k3.lt
  have q3 := k3.cell
  go_wp2_with fail
  refine (all_slc _ _ _ _ _ _ hown3.slc hW).mono ?_
  rintro e w4 ⟨rfl, hb4⟩
  have h4 := h3.fresh hb4
  have k4 := k3.below hb4 z3
  have b4 : Below w.heap.size w w4 := b3.trans (hb4.mono b3.size)
  clear hb4 b3 q3 k3 h3 hown3
  have z4 := k4.lt
  have q4 := k4.cell
  go_wp2_with fail
  refine (all_slc _ _ _ _ _ _ h4.soft hM.soft).mono ?_
  rintro e w5 ⟨rfl, hb5⟩
  have h5 := h4.fresh hb5
  have k5 := k4.below hb5 z4
  have b5 : Below w.heap.size w w5 := b4.trans (hb5.mono b4.size)
  clear hb5 b4 q4 k4 h4
  have z5 := k5.lt
  have q5 := k5.cell
  go_wp2_with fail
  refine (all_slc _ _ _ _ _ _ h5.odds hM.odds).mono ?_
  rintro e w6 ⟨rfl, hb6⟩
  have h6 := h5.fresh hb6
  have k6 := k5.below hb6 z5
  have b6 : Below w.heap.size w w6 := b5.trans (hb6.mono b5.size)
  clear hb6 b5 q5 k5 h5
  have q6 := k6.cell
  obtain ⟨ad', u, he, -, -, hu, hc6⟩ := (r10.fresh b6).at_ (k := 0) (by omega)
  injection he with he
  subst he
  rw [ints_get _ 0 (by omega), ← hx] at hu
  injection hu with hu
  subst hu
  rw [show ad.add 0 = ad from by simp [Addr.add]] at hc6
  clear hx
  go_wp2_with fail
  go_ret
  exact ⟨rfl, b6⟩
end Go.Proofs.YtempdomhbfokmaaGreatDoor

namespace Go.Proofs.YtempdomhbfokmaaGreatDoor
open Go.RowKit

theorem wrap_wr (n : Int) : wrap64 (wrap32 n) = wr n := by
  unfold wrap64 wrap32 wr
  omega

set_option maxHeartbeats 400000 in
theorem wrap_any (n : Int) (w : World) : Calls Tryz.prog 65 #[.int .i64 n] w fun e w' => e = .returned (.int .i64 (wr n)) ∧ w = w' := by
  go_enter Tryz.func65, Tryz.ntmps65
  go_wp2
  go_ret
  rw [← wrap_wr]
  exact ⟨rfl, rfl⟩

theorem pow_small (k : Nat) (h : k ≤ 14) : (0 : Int) < 2 ^ k ∧ (2 : Int) ^ k ≤ 16384 := by
  have h1 : 2 ^ k ≤ 2 ^ 14 := Nat.pow_le_pow_right (by omega) h
  have h2 : 0 < 2 ^ k := Nat.pow_pos (by omega)
  have e : (2 : Int) ^ k = ((2 ^ k : Nat) : Int) := by simp
  rw [e]
  omega

set_option maxHeartbeats 400000 in
theorem shift_any (n c : Int) (w : World) (h1 : 1 ≤ c) (h2 : c ≤ 15) (h3 : -4294967296 ≤ n ∧ n ≤ 4294967296) : Calls Tryz.prog 66 #[.int .i64 n, .int .i64 c] w fun e w' => e = .returned (.int .i64 (shiftF n c)) ∧ w = w' := by
  obtain ⟨p1, p2⟩ := pow_small (c.toNat - 1) (by omega)
  have e : wrap64 (2 ^ (c.toNat - 1)) = 2 ^ (c.toNat - 1) := IntWalk.wrap64_in _ ⟨by omega, by omega⟩
  have e2 : shiftF n c = wrap64 (n + wrap64 (2 ^ (c.toNat - 1))) / 2 ^ c.toNat := by
    rw [e, IntWalk.wrap64_in _ ⟨by omega, by omega⟩]
    unfold shiftF
    rw [show (c - 1).toNat = c.toNat - 1 from by omega]
  rw [e2]
  clear e e2 p1 p2
  go_enter Tryz.func66, Tryz.ntmps66
  go_wp2
  go_ret
  exact ⟨rfl, rfl⟩

theorem slc_cut {w : World} {T : Nat → Prop} {A : Option Addr} {c : Nat} {l : List Int} (hr : Reads w T 1 A l.length (ints l)) (h1 : l.length ≤ c) (h2 : c ≤ maxLen) (h3 : A = none → l.length = 0 ∧ c = 0) (p d : Nat) (hl : p + d ≤ l.length) :
    Slc w T (.slice (if c = p then A else A.map fun x => x.add p) d (c - p)) ((l.drop p).take d) := by
  have hlen : ((l.drop p).take d).length = d := by simp; omega
  refine ⟨_, c - p, by rw [hlen], ?_, by rw [hlen]; omega, by omega, ?_⟩
  · have h := (hr.cut (k := p) (cap := c) (by omega) h1).take (k := d) (by omega)
    rw [hlen]
    simpa [ints] using h
  · intro ha
    rw [hlen]
    split at ha
    · obtain ⟨a, b⟩ := h3 ha; omega
    · cases A with
      | none => obtain ⟨a, b⟩ := h3 rfl; omega
      | some _ => simp at ha

/-- the cut v[p : p + d] of a slice -/
def cutv (v : Value) (p d : Nat) : Value := match v with
  | .slice A _ c => .slice (if c = p then A else A.map fun x => x.add p) d (c - p)
  | v => v
theorem Slc.cut {w : World} {T : Nat → Prop} {v : Value} {l : List Int} (h : Slc w T v l) (p d : Nat) (hl : p + d ≤ l.length) : Slc w T (cutv v p d) ((l.drop p).take d) := by
  obtain ⟨A, c, rfl, hr, h1, h2, h3⟩ := h
  exact slc_cut hr h1 h2 h3 p d hl
theorem Slc.row {w : World} {T : Nat → Prop} {v : Value} {l : List Int} (h : Slc w T v l) (i d : Nat) (hl : (i + 1) * d ≤ l.length) : Slc w T (cutv v (i * d) d) (rowF l i d) :=
  h.cut _ _ (by rw [Nat.add_mul] at hl; omega)

set_option maxHeartbeats 400000 in
theorem row_any (w : World) (T : Nat → Prop) (v : Value) (l : List Int) (at_ d : Nat) (h : Slc w T v l) (hl : (at_ + 1) * d ≤ l.length) (hll : l.length ≤ 65536) (ha : at_ ≤ 65536) (hd : d ≤ 65536) :
    Calls Tryz.prog 63 #[v, .int .i64 at_, .int .i64 d] w fun e w' => e = .returned (cutv v (at_ * d) d) ∧ w = w' := by
  obtain ⟨A, c, rfl, hr, h1, h2, h3⟩ := h
  obtain ⟨p, hp⟩ : ∃ p, p = at_ * d := ⟨_, rfl⟩
  have e1 : (at_ : Int) * d = p := by rw [hp]; simp
  have e2 : ((at_ : Int) + 1) * d = (p + d : Nat) := by rw [hp, Int.add_mul]; simp
  have e3 : (at_ + 1) * d = p + d := by rw [hp, Nat.add_mul]; simp
  rw [e3] at hl
  rw [← hp]
  have H3 := Lib.hid h3
  clear h3 hp e3
  by_cases hcp : c = p
  · subst hcp
    go_enter Tryz.func63, Tryz.ntmps63
    go_wp2
    go_ret
    exact ⟨by simp [cutv], rfl⟩
  · go_enter Tryz.func63, Tryz.ntmps63
    go_wp2
    go_ret
    exact ⟨by simp [cutv, hcp], rfl⟩

set_option maxRecDepth 100000 in
set_option maxHeartbeats 400000 in
theorem matrix_any (w : World) (T : Nat → Prop) (M : Model) (v4 v5 v6 v7 v8 v9 v10 : Value) (h : MSl w T M v4 v5 v6 v7 v8 v9 v10) (k : Nat) (hk : (k + 1) * (M.width * M.width) ≤ M.mix.length) (hw : M.width ≤ 5) (hl : M.mix.length ≤ 65536) (hk2 : k ≤ 5) :
    Calls Tryz.prog 68 #[.agg #[.int .i64 M.kind, .int .i64 M.vocab, .int .i64 M.width, .int .i64 M.top, v4, v5, v6, v7, v8, v9, v10], .int .i64 k] w fun e w' => e = .returned (cutv v7 (k * (M.width * M.width)) (M.width * M.width)) ∧ Below w.heap.size w w' := by
  obtain ⟨q1, q2, -⟩ := sq_bounds _ hw
  have e1 : (M.width : Int) * M.width = (M.width * M.width : Nat) := by simp
  have hb := mul_bounds _ _ _ _ hw hw
  have E1 := Lib.hid e1
  clear e1
  go_enter Tryz.func68, Tryz.ntmps68
  go_wp2_with fail
  rw [E1.out]
  refine (row_any _ T v7 M.mix k (M.width * M.width) (h.mix.alloc _) hk hl (by omega) (by omega)).mono ?_
  rintro e w' ⟨rfl, rfl⟩
  go_wp2_with fail
  go_ret
  exact ⟨rfl, by go_grown⟩

theorem wr_wrap64 (z : Int) : wr (wrap64 z) = wr z := by
  unfold wr wrap64
  omega
theorem dotF_take (a b : List Int) (k : Nat) (ha : k < a.length) (hb : k < b.length) : dotF (a.take (k + 1)) (b.take (k + 1)) = wr (dotF (a.take k) (b.take k) + wr (a[k] * b[k])) := by
  unfold dotF
  rw [List.take_succ_eq_append_getElem ha, List.take_succ_eq_append_getElem hb, List.zip_append (by simp; omega), List.foldl_append]
  rfl
theorem dotF_word (a b : List Int) : word (dotF a b) := by
  unfold dotF
  generalize List.zip a b = l
  have key : ∀ (l : List (Int × Int)) (s : Int), word s → word (l.foldl (fun s p => wr (s + wr (p.1 * p.2))) s) := by
    intro l
    induction l with
    | nil => exact fun s h => h
    | cons p l ih => exact fun s _ => ih _ (wr_range _)
  exact key l 0 ⟨by omega, by omega⟩

set_option maxHeartbeats 400000 in
theorem dot_any (w : World) (T T' : Nat → Prop) (v u : Value) (a b : List Int) (ha : Slc w T v a) (hb : Slc w T' u b) (hlen : a.length = b.length) (hwa : inRange (-4294967296) 4294967296 a) (hwb : inRange (-2147483648) 2147483647 b) :
    Calls Tryz.prog 67 #[v, u] w fun e w' => e = .returned (.int .i64 (dotF a b)) ∧ ∃ n, w' = w.drewN n := by
  obtain ⟨A, c, rfl, ra, a1, a2, -⟩ := ha
  obtain ⟨B, d, rfl, rb, b1, b2, -⟩ := hb
  unfold maxLen at a2 b2
  go_enter Tryz.func67, Tryz.ntmps67
  go_wp2_with fail
  go_loopw [5, 9] (fun s i wr => ∃ k : Nat, k ≤ a.length ∧ i = .int .i64 k ∧ s = .int .i64 (dotF (a.take k) (b.take k)) ∧ ∃ n, wr = w.drewN n) (fun _ i _ => a.length - (intOf i).toNat)
  case atStart => exact ⟨0, Nat.zero_le _, rfl, rfl, 0, rfl⟩
  case round =>
    obtain ⟨k, hk, rfl, rfl, n, rfl⟩ := hrel
    by_cases hlt : k < a.length
    · obtain ⟨ad, x, rfl, _, _, hx, hcx⟩ := ra.at_ hlt
      obtain ⟨bd, y, rfl, _, _, hy, hcy⟩ := rb.at_ (k := k) (by omega)
      have hltb : k < b.length := by omega
      rw [ints_get _ _ hlt] at hx
      rw [ints_get _ _ hltb] at hy
      have wa := hwa _ (List.getElem_mem hlt)
      have wb := hwb _ (List.getElem_mem hltb)
      have HD := Lib.hid (dotF_take a b k hlt hltb)
      obtain ⟨d1, d2⟩ := dotF_word (a.take k) (b.take k)
      obtain ⟨x', hx'⟩ : ∃ x', x' = a[k] := ⟨_, rfl⟩
      obtain ⟨y', hy'⟩ : ∃ y', y' = b[k] := ⟨_, rfl⟩
      rw [← hx'] at hx wa HD
      rw [← hy'] at hy wb HD
      injection hx with hx
      injection hy with hy
      subst hx hy
      clear hx' hy'
      obtain ⟨r1, r2⟩ := wr_range (x' * y')
      have hw1 : wr (wrap64 (x' * y')) = wr (x' * y') := wr_wrap64 _
      go_wp2_with fail
      go_quiet ((go_at_call 65; exact quiet_add_left (wrap_any _ _)))
      go_wp2_with fail
      go_outline
      go_roundw
      case rel => 
        refine ⟨k + 1, by omega, by go_num, ?_, _, rfl⟩
        rw [HD.out]
      case measure => simp [intOf]; omega
    · obtain rfl : k = a.length := by omega
      have e : dotF (a.take a.length) (b.take a.length) = dotF a b := by rw [List.take_length, hlen, List.take_length]
      rw [e]
      clear e
      go_wp2_with fail
      go_ret
      exact ⟨rfl, _, rfl⟩
end Go.Proofs.YtempdomhbfokmaaGreatDoor

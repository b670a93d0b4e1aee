/- nat.wide at one digit: a range over slices.Backward. nat.Gcd at one digit; frac.Reduced, Int, Quotient, Div, Add. frac.Reduced, Int at one digit. frac.one, Int, Div, Quotient on numbers of one digit. frac.Add: one half and one half. -/
import Derived.RangeFuncBox
import Derived.RangeFuncLeaves
import Derived.RangeFuncWrites
import Derived.Shelf.Abstract
import Derived.WalkKit
import Derived.OwnWalkIn
import Derived.TacticsInMore
import Derived.LoopNIn
import Derived.LoopIn
import Derived.Test.YtmlfgokbcafbkaaGreatDoorTk22
import Derived.Test.YtmlfgokbcafbkaaGreatDoorTk14
import Derived.Test.YtmlfgokbcafbkaaGreatDoorTk16
import Derived.Deep.RegionHeld3
namespace Go.Proofs.YtmlfgokbcafbkaaGreatDoor
open Go.RowKit Go.Shelf

attribute [local go_sem] Oper.semAt_some
set_option maxRecDepth 100000 in
set_option maxHeartbeats 2000000 in
theorem back1_in (F : Fence) (n : Nat) (h7 : F.fn 136) (hro : F.round = none) (hn : 1 ≤ n) (l Bs n₀ : Nat) (ad : Addr) (c : Nat) (x : Nat) (hb : ad.block < n₀) (J Jx : List Unit → World → Prop)
    (hY : ∀ pre y W, J pre W → pre.length < 1 → YieldAt F (n - 1) Tryz.prog l #[.int .i64 0, .int .u32 x] W fun e W' =>
      (e = .returned (.bool true) ∧ J (pre ++ [y]) W' ∧ Below n₀ W W') ∨ (e = .returned (.bool false) ∧ Jx (pre ++ [y]) W'))
    (W : World) (hBs : W.cell? ⟨Bs, 0, none⟩ = some (.slice (some ad) 1 c)) (hc : W.cell? ad = some (.int .u32 x)) (h0 : J [] W) :
    CallsIn F n Tryz.prog 136 #[.func (.yield l) #[] #[], .pointer (some ⟨Bs, 0, none⟩)] W fun e W' => (∃ v, e = .returned v) ∧
      ((∃ ys, ys = [()] ∧ J ys W') ∨ (∃ pre, pre = [()] ∧ Jx pre W')) := by
  refine callsIn_of_wp Tryz.func136 rfl h7 ?_ hro
  simp only [Tryz.ntmps136, List.size_toArray, List.length_cons, List.length_nil, Nat.reduceAdd, Nat.reduceSub, Array.replicate_succ, Array.replicate_zero, List.push_toArray, List.append_toArray, List.nil_append, List.cons_append]
  gi_wp2
  gi_loopw [3] (fun i wr => (i = .int .i64 0 ∧ wr = W) ∨ (i = .int .i64 (-1) ∧ J [()] wr)) (fun i _ => (intOf i + 1).toNat)
  case atStart => exact Or.inl ⟨rfl, rfl⟩
  case round =>
    rcases hrel with ⟨rfl, rfl⟩ | ⟨rfl, hJ⟩
    · obtain ⟨fn, tmps, assign, body, hy, hR⟩ := hY [] () wr h0 (by simp)
      gi_wp2
      refine hR.mono ?_
      rintro e W3 (⟨rfl, hJ3, hk3⟩ | ⟨rfl, hJx3⟩)
      · gi_wp2
        go_roundw
        case rel => exact Or.inr ⟨rfl, hJ3⟩
        case measure => simp [intOf]
      · gi_wp2
        refine bodyPost_ret (results_none rfl _ _ _) rfl ?_
        exact ⟨⟨_, rfl⟩, .inr ⟨_, rfl, hJx3⟩⟩
    · gi_wp2
      go_end0
      exact ⟨⟨_, rfl⟩, .inl ⟨_, rfl, hJ⟩⟩
set_option maxHeartbeats 1000000 in
theorem backward_in (F : Fence) (n : Nat) (h5 : F.fn 121) (hro : F.round = none) (a : Option Addr) (len cap : Nat) (w : World) :
    CallsIn F n Tryz.prog 121 #[.slice a len cap] w fun e w' => e = .returned (.func (.func 136) #[] #[.pointer (some ⟨w.heap.size, 0, none⟩)]) ∧ w' = w.alloc (.cells #[.slice a len cap] 91) := by
  refine callsIn_of_wp Tryz.func121 rfl h5 ?_ hro
  simp only [Tryz.ntmps121, List.size_toArray, List.length_cons, List.length_nil, Nat.reduceAdd, Nat.reduceSub, Array.replicate_succ, Array.replicate_zero, List.push_toArray, List.append_toArray, List.nil_append, List.cons_append]
  gi_wp2
  go_ret
  exact ⟨rfl, rfl⟩
theorem back_stops (F : Fence) (n : Nat) (h7 : F.fn 136) (hro : F.round = none) (hn : 1 ≤ n) (Bs n₀ : Nat) (ad : Addr) (c x : Nat) (hb : ad.block < n₀) (w : World) (hBs : Bs < w.heap.size) (hn₀ : n₀ ≤ w.heap.size)
    (hs : w.cell? ⟨Bs, 0, none⟩ = some (.slice (some ad) 1 c)) (hc : w.cell? ad = some (.int .u32 x)) :
    SeqStopsK F n Tryz.prog 136 #[.pointer (some ⟨Bs, 0, none⟩)] (fun _ : Unit => #[Value.int .i64 0, Value.int .u32 x]) (Below n₀) (fun ys => ys = [()]) (fun pre => pre = [()]) 1 w := fun l J Jx W hW _ _ hY h0 =>
  back1_in F n h7 hro hn l Bs n₀ ad c x hb J Jx (fun pre y W h1 h2 => hY pre y W h1 h2) W ((hW.cell (p := ⟨Bs, 0, none⟩) hBs).trans hs) ((hW.cell (p := ad) (by omega)).trans hc) h0
set_option maxRecDepth 100000 in
set_option maxHeartbeats 2000000 in
theorem wide_in (F : Fence) (n : Nat) (h3 : F.fn 100) (h5 : F.fn 121) (h7 : F.fn 136) (hro : F.round = none) (hn : 3 ≤ n) (ad : Addr) (cap x : Nat) (hx : x < 1000000000) (w : World) (hb : ad.block < w.heap.size) (hc : w.cell? ad = some (.int .u32 x)) :
    CallsIn F n Tryz.prog 100 #[.slice (some ad) 1 cap] w fun e W' => e = .returned (.int .u64 x) ∧ Below w.heap.size w W' := by
  have h1 : 1 ≤ n := by omega
  refine callsIn_of_wp_marks Tryz.func100 rfl h3 ?_ hro
  simp only [Tryz.ntmps100, List.size_toArray, List.length_cons, List.length_nil, Nat.reduceAdd, Nat.reduceSub, Array.replicate_succ, Array.replicate_zero, List.push_toArray, List.append_toArray, List.nil_append, List.cons_append]
  gi_wp2_with (gi_at_call 121; refine (backward_in F (n - 1) h5 hro _ _ _ _).mono ?_; rintro e w' ⟨rfl, rfl⟩)
  have bS := Boxed.new w 116 (.int .u64 0)
  have bN := Boxed.new (w.alloc (.cells #[.int .u64 0] 116)) 91 (.slice (some ad) 1 cap)
  rw [World.size_alloc] at bN
  have hB0 : Below w.heap.size w ((w.alloc (.cells #[.int .u64 0] 116)).alloc (.cells #[.slice (some ad) 1 cap] 91)) := ((Below.refl _ w).alloc (Nat.le_refl _) _).alloc (by simp) _
  have hm1 : IntKind.u64.wrap (x : Int) = x := IntWalk.u64_in _ ⟨by omega, by omega⟩
  have HX := Lib.hid hx
  clear hx
  refine wpIn_rangeFunc_ownG hro h1 (gf := 136) (lb := #[.pointer (some ⟨w.heap.size + 1, 0, none⟩)]) rfl h7 (enters_of Tryz.func136 (by kernel_rfl) rfl)
    (back_stops F (n - 1) h7 hro (by omega) (w.heap.size + 1) w.heap.size ad cap x hb _ (by simp) (by simp; omega) bN.cell ((hB0.cell (p := ad) hb).trans hc)) belowK_t (belowK_b (by simp; omega)) (Below.refl _ _) (fun _ => rfl)
    (fun pre W => (W.cell? ⟨w.heap.size, 0, none⟩ = some (.int .u64 ((pre.length * x : Nat) : Int)) ∧ W.frozen? ⟨w.heap.size, 0, none⟩ = false) ∧ Below w.heap.size w W)
    (fun _ _ _ => False)
    (OwnFrom.and (Own.from (fun s A B row hs hg hr => ⟨cell_kept hs.1 hg hr, (frozen_kept hs.1 hg hr).trans hs.2⟩) _) (ownFrom_below (Nat.le_refl _) (by simp; omega)))
    (fun _ _ _ _ _ hs _ _ => hs)
    ⟨⟨by simp, (bS.alloc _).frozen⟩, hB0⟩
    (fun _ => { tmps := #[.slice (some ad) 1 cap, undef, .int .u64 0, .pointer (some ⟨w.heap.size, 0, none⟩), undef, .int .u32 x, .slice (some ad) 1 cap, .func (.func 136) #[] #[.pointer (some ⟨w.heap.size + 1, 0, none⟩)], .int .i64 0, .int .u32 x, undef, undef, undef, undef, undef, undef], defers := [] }) ?assign ?body ?done ?stop
  case assign =>
    intro l y W K hK
    gi_wp2
    exact hK
  case body =>
    rintro l pre y W ⟨⟨hc, hf⟩, hB⟩ hlen
    have hp : pre = [] := List.eq_nil_of_length_eq_zero (by omega)
    subst hp
    rw [List.length_nil, Nat.zero_mul] at hc
    have hc0 : W.cell? ⟨w.heap.size, 0, none⟩ = some (.int .u64 0) := hc
    clear hc
    gi_wp2
    exact ⟨(KeepsOthers.setCell _ _ _).from _, (Below.refl w.heap.size W).setCell (p := ⟨w.heap.size, 0, none⟩) (Nat.le_refl _) _, ⟨by simpa using World.cell?_setCell_same' W ⟨w.heap.size, 0, none⟩ (.int .u64 (x : Int)) (by rw [hc0]; rfl), by rw [World.frozen?_setCell]; exact hf⟩, hB.setCell (p := ⟨w.heap.size, 0, none⟩) (Nat.le_refl _) _⟩
  case done =>
    rintro D ys W hD rfl ⟨⟨hc, _⟩, hB⟩ hK
    gi_wp2
    refine ⟨by simp, .inl ⟨_, _, rfl, run_takeDeferred hK, ?_⟩⟩
    exact ⟨_, results_tmp rfl _ _ _, by simp, hB.trans (belowK_b (w := w) (Nat.le_refl _) W D _ _ (by simp at hD; omega) hK rfl rfl)⟩
  case stop =>
    rintro D c pre W _ _ h _
    exact h.elim
theorem wide_any (w : World) (v : Value) (x : Nat) (h : Nat1 w v x) : Calls Tryz.prog 100 #[v] w fun e W' => e = .returned (.int .u64 x) ∧ Below w.heap.size w W' := by
  obtain ⟨ad, c, rfl, -, -, hb, hc, -, h2⟩ := h
  exact (callsIn_wide (n := 3)).1 (wide_in Fence.wide 3 trivial trivial trivial rfl (by omega) ad c x h2 w hb hc)
end Go.Proofs.YtmlfgokbcafbkaaGreatDoor

namespace Go.Proofs.YtmlfgokbcafbkaaGreatDoor
open Go.RowKit

set_option maxRecDepth 100000 in
set_option maxHeartbeats 2000000 in
theorem gcd_any (w : World) (u v : Value) (x y : Nat) (hu : Nat1 w u x) (hv : Nat1 w v y) :
    Calls Tryz.prog 85 #[u, v] w fun e w' => ∃ r, e = .returned r ∧ Nat1 w' r (Nat.gcd x y) ∧ Below w.heap.size w w' := by
  have HW1 := Lib.hid (wide_any w u x hu)
  have HV := Lib.hid hv
  obtain ⟨a, ca, rfl, -, -, haz, hca, hx1, hx2⟩ := hu
  obtain ⟨b, cb, hve, -, -, hbz, hcb, hy1, hy2⟩ := hv
  subst hve
  have HX2 : Hid (1 ≤ x ∧ x < 1000000000) := Lib.hid ⟨hx1, hx2⟩
  have HY2 : Hid (1 ≤ y ∧ y < 1000000000) := Lib.hid ⟨hy1, hy2⟩
  clear hx2 hy2 haz hbz hca hcb hx1 hy1
  go_enter Tryz.func85, Tryz.ntmps85
  go_wp2_with fail
  go_loopw [0, 1] (fun u v wr => wr = w ∧ u = .slice (some a) 1 ca ∧ v = .slice (some b) 1 cb) (fun _ _ _ => 0)
  case atStart => exact ⟨rfl, rfl, rfl⟩
  obtain ⟨rfl, rfl, rfl⟩ := hrel
  go_wp2_with fail
  refine HW1.out.mono ?_
  rintro e w1 ⟨rfl, hb1⟩
  have HW2 := Lib.hid (wide_any w1 _ y (HV.out.fresh hb1))
  have HB1 := Lib.hid hb1
  clear hb1
  go_wp2_with fail
  refine HW2.out.mono ?_
  rintro e w2 ⟨rfl, hb2⟩
  have HB2 := Lib.hid ((Keeps.of_below HB1.out (fun _ => False)).fresh hb2)
  clear hb2
  go_wp2_with fail
  obtain ⟨wo, rfl⟩ : ∃ wo : World, wo = wr := ⟨_, rfl⟩
  go_loopw [7, 8] (fun xv yv wr => ∃ p q k : Nat, xv = .int .u64 p ∧ yv = .int .u64 q ∧ wr = w2.drewN k ∧ Hid (Nat.gcd p q = Nat.gcd x y) ∧ Hid (1 ≤ p ∧ p < 1000000000) ∧ Hid (q < 1000000000)) (fun _ yv _ => (intOf yv).toNat)
  case atStart => exact ⟨x, y, 0, rfl, rfl, rfl, rfl, HX2.out, HY2.out.2⟩
  obtain ⟨p, q, k, rfl, rfl, rfl, HG, HP, HQ⟩ := hrel
  by_cases hq : q = 0
  · subst hq
    have hp1 : 1 ≤ p := HP.out.1
    have hgp : p = Nat.gcd x y := by have := HG.out; rwa [Nat.gcd_zero_right] at this
    have HOF := Lib.hid (of_any (w2.drewN k) p hp1 HP.out.2)
    have HGP := Lib.hid hgp
    clear hgp
    go_wp2_with fail
    refine HOF.out.mono ?_
    rintro e w3 ⟨r, rfl, hr, hb3⟩
    have HR := Lib.hid hr
    have HB3 := Lib.hid ((HB2.out.drewN k).fresh hb3)
    clear hr hb3
    go_wp2_with fail
    go_ret
    exact ⟨r, rfl, by rw [← HGP.out]; exact HR.out, HB3.out.to_below⟩
  · have hq1 : ¬ (q : Int) = 0 := by omega
    have hqq : ((q : Int) != 0) = true := by simpa using hq
    have htm : (p : Int).tmod (q : Int) = ((p % q : Nat) : Int) := by rw [Int.tmod_eq_emod_of_nonneg (by omega)]; rfl
    go_wp2_with fail
    go_quiet (fail)
    go_wp2_with fail
    have hlt : p % q < q := Nat.mod_lt _ (by omega)
    go_roundw
    case rel => exact ⟨q, p % q, k + nq, rfl, by rw [Int.natCast_emod], World.drewN_drewN _ _ _, (show Nat.gcd q (p % q) = Nat.gcd x y by rw [Nat.gcd_comm, ← Nat.gcd_rec, Nat.gcd_comm]; exact HG.out), ⟨by omega, HQ.out⟩, (show p % q < 1000000000 by have h := HQ.out; exact Nat.lt_trans hlt h)⟩
    case measure => simp only [intOf]; rw [← Int.natCast_emod]; omega
end Go.Proofs.YtmlfgokbcafbkaaGreatDoor

namespace Go.Proofs.YtmlfgokbcafbkaaGreatDoor
open Go.RowKit

theorem keeps3' (w : World) (g : Nat) (a0 a1 a2 : Value) : Keeps (· = g) w (((w.setCell ⟨g, 0, none⟩ a0).setCell ⟨g, 1, none⟩ a1).setCell ⟨g, 2, none⟩ a2) :=
  Keeps.setCell (p := ⟨g, 2, none⟩) (Keeps.setCell (p := ⟨g, 1, none⟩) (Keeps.setCell (p := ⟨g, 0, none⟩) (Keeps.refl (· = g) w) (fun _ => rfl) _) (fun _ => rfl) _) (fun _ => rfl) _
theorem blk3' (w : World) (g : Nat) (t : TypeId) (b0 b1 b2 a0 a1 a2 : Value) (h : Blk w g t #[b0, b1, b2]) : Blk (((w.setCell ⟨g, 0, none⟩ a0).setCell ⟨g, 1, none⟩ a1).setCell ⟨g, 2, none⟩ a2) g t #[a0, a1, a2] := ((h.set_ 0 a0).set_ 1 a1).set_ 2 a2
theorem Nat1.lit {w : World} {v : Value} {x : Nat} (h : Nat1 w v x) : ∃ A c, v = .slice A 1 c := by
  obtain ⟨ad, c, rfl, -⟩ := h
  exact ⟨_, _, rfl⟩
theorem Nat1.keeps {w w' : World} {S : Nat → Prop} {v : Value} {x : Nat} {B : Nat} (h : Nat1 w v x) (hb : ∀ g, v = .slice (some g) 1 (match v with | .slice _ _ c => c | _ => 0) → g.block < B) (hk : Keeps S w w') (hs : ∀ i, i < B → ¬ S i) : Nat1 w' v x := by
  obtain ⟨ad, c, rfl, h2, h3, h4, h5, h6⟩ := h
  exact ⟨ad, c, rfl, h2, h3, Nat.lt_of_lt_of_le h4 hk.size, (hk.cell (p := ad) h4 (hs _ (hb ad rfl))).trans h5, h6⟩
/-- a number of one digit in a block below B -/
def NatB (w : World) (B : Nat) (v : Value) (x : Nat) : Prop :=
  ∃ (ad : Addr) (c : Nat), v = .slice (some ad) 1 c ∧ 1 ≤ c ∧ c ≤ maxLen ∧ ad.block < B ∧ B ≤ w.heap.size ∧ w.cell? ad = some (.int .u32 x) ∧ 1 ≤ x ∧ x < 1000000000
theorem Nat1.to_b {w : World} {v : Value} {x : Nat} (h : Nat1 w v x) : NatB w w.heap.size v x := by
  obtain ⟨ad, c, rfl, h2, h3, h4, h5, h6⟩ := h
  exact ⟨ad, c, rfl, h2, h3, h4, Nat.le_refl _, h5, h6⟩
theorem NatB.nat {w : World} {B : Nat} {v : Value} {x : Nat} (h : NatB w B v x) : Nat1 w v x := by
  obtain ⟨ad, c, rfl, h2, h3, h4, h4', h5, h6⟩ := h
  exact ⟨ad, c, rfl, h2, h3, Nat.lt_of_lt_of_le h4 h4', h5, h6⟩
theorem NatB.keeps {w w' : World} {S : Nat → Prop} {B : Nat} {v : Value} {x : Nat} (h : NatB w B v x) (hk : Keeps S w w') (hs : ∀ i, i < B → ¬ S i) : NatB w' B v x := by
  obtain ⟨ad, c, rfl, h2, h3, h4, h4', h5, h6⟩ := h
  exact ⟨ad, c, rfl, h2, h3, h4, Nat.le_trans h4' hk.size, (hk.cell (p := ad) (Nat.lt_of_lt_of_le h4 h4') (hs _ h4)).trans h5, h6⟩
theorem blk_at {w : World} {g : Nat} {t : TypeId} {cs : Array Value} {ad : Addr} {v : Value} (h : Blk w g t cs) (hb : ad.block = g) (hc : w.cell? ad = some v) : cs[ad.off]? = some v := by
  obtain ⟨b, o, s⟩ := ad
  subst hb
  unfold Blk at h
  unfold World.cell? at hc
  simp only [h] at hc
  split at hc
  · cases hc
  · exact hc
theorem Nat1.not_in {w : World} {g : Nat} {t : TypeId} {x : Nat} {b : Bool} {A1 A2 : Option Addr} {n1 n2 c1 c2 : Nat} {v : Value} (h : Nat1 w v x) (hb : Blk w g t #[.bool b, .slice A1 n1 c1, .slice A2 n2 c2]) :
    ∀ ad c, v = .slice (some ad) 1 c → ad.block ≠ g := by
  intro ad c hv he
  obtain ⟨ad', c', rfl, h2, h3, h4, h5, h6⟩ := h
  cases hv
  have := blk_at hb he h5
  rcases hn : ad.off with _ | _ | _ | n <;> rw [hn] at this <;> simp at this
theorem Nat1.past {w w' : World} {g : Nat} {t : TypeId} {x : Nat} {b : Bool} {A1 A2 : Option Addr} {n1 n2 c1 c2 : Nat} {v : Value} (h : Nat1 w v x) (hb : Blk w g t #[.bool b, .slice A1 n1 c1, .slice A2 n2 c2]) (hk : Keeps (· = g) w w') : Nat1 w' v x := by
  have hne := h.not_in hb
  obtain ⟨ad, c, rfl, h2, h3, h4, h5, h6⟩ := h
  exact ⟨ad, c, rfl, h2, h3, Nat.lt_of_lt_of_le h4 hk.size, (hk.cell (p := ad) h4 (hne ad c rfl)).trans h5, h6⟩
theorem frac_size : (Tryz.prog.info? 93).map (·.size) = some 3 := by kernel_rfl
set_option maxRecDepth 100000 in
set_option maxHeartbeats 2000000 in
theorem reduced_co (w : World) (neg : Bool) (u v : Value) (p q : Nat) (hu : Nat1 w u p) (hv : Nat1 w v q) (h : Nat.gcd p q = 1) :
    Calls Tryz.prog 69 #[.bool neg, u, v] w fun e w' => e = .returned (.agg #[.bool neg, u, v]) ∧ Below w.heap.size w w' := by
  obtain ⟨A1, c1, rfl⟩ := hu.lit
  obtain ⟨A2, c2, rfl⟩ := hv.lit
  have HU := Lib.hid hu
  have HV := Lib.hid hv
  have HG := Lib.hid h
  clear hu hv h
  have kr := Blk.new w 93 #[.bool false, .slice none 0 0, .slice none 0 0]
  have hb0 := (Below.refl w.heap.size w).alloc (Nat.le_refl _) (.cells #[.bool false, .slice none 0 0, .slice none 0 0] 93)
  have KR := Lib.hid kr
  have HB0 := Lib.hid hb0
  clear kr hb0
  go_enter Tryz.func69, Tryz.ntmps69
  go_wp2_with fail
  refine (zero_any _ _ p (HU.out.alloc _)).mono ?_
  rintro e w1 ⟨rfl, hw1⟩
  generalize w.alloc (.cells #[.bool false, .slice none 0 0, .slice none 0 0] 93) = W at *
  subst hw1
  have HUW := Lib.hid (HU.out.fresh HB0.out)
  have HVW := Lib.hid (HV.out.fresh HB0.out)
  go_wp2_with fail
  refine (one_any _ _ q HVW.out).mono ?_
  rintro e w' ⟨rfl, rfl⟩
  by_cases hq : q = 1
  · have hd : decide (q = 1) = true := by simpa using hq
    have e0 : w'.cell? ⟨w.heap.size, 0, none⟩ = some (.bool false) := KR.out.cell 0
    have f0 := KR.out.frozen 0
    have e1 : w'.cell? ⟨w.heap.size, 1, none⟩ = some (.slice none 0 0) := KR.out.cell 1
    have f1 := KR.out.frozen 1
    have e2 : w'.cell? ⟨w.heap.size, 2, none⟩ = some (.slice none 0 0) := KR.out.cell 2
    have f2 := KR.out.frozen 2
    go_wp2_with fail
    refine bodyPost_ret (v := .agg #[.bool neg, .slice A1 1 c1, .slice A2 1 c2]) ?_ ?_ ?_
    · exact res_cell (p := 6) (ty := 93) (fn := Tryz.f69) rfl _ _ w.heap.size 93 #[.bool neg, .slice A1 1 c1, .slice A2 1 c2] _ rfl (blk3' w' w.heap.size 93 _ _ _ _ _ _ KR.out) Tryz.underlying93 rfl frac_size
    · rfl
    exact ⟨rfl, ((Keeps.of_below HB0.out (fun _ => False)).trans (keeps3' w' w.heap.size _ _ _) (fun i hi h => by omega)).to_below⟩
  · have hd : decide (q = 1) = false := by simpa using hq
    have HGC := Lib.hid (gcd_any w' _ _ p q HUW.out HVW.out)
    go_wp2_with fail
    refine HGC.out.mono ?_
    rintro e w2 ⟨r, rfl, hr, hb2⟩
    rw [HG.out] at hr
    have HON := Lib.hid (one_any w2 r 1 hr)
    have KR2 := Lib.hid (KR.out.below hb2 KR.out.lt)
    have HB2 := Lib.hid ((HB0.out).trans (hb2.mono HB0.out.size))
    clear hr hb2 HGC
    have e0 : w2.cell? ⟨w.heap.size, 0, none⟩ = some (.bool false) := KR2.out.cell 0
    have f0 := KR2.out.frozen 0
    have e1 : w2.cell? ⟨w.heap.size, 1, none⟩ = some (.slice none 0 0) := KR2.out.cell 1
    have f1 := KR2.out.frozen 1
    have e2 : w2.cell? ⟨w.heap.size, 2, none⟩ = some (.slice none 0 0) := KR2.out.cell 2
    have f2 := KR2.out.frozen 2
    go_wp2_with fail
    refine HON.out.mono ?_
    rintro e w3 ⟨rfl, rfl⟩
    go_wp2_with fail
    refine bodyPost_ret (v := .agg #[.bool neg, .slice A1 1 c1, .slice A2 1 c2]) ?_ ?_ ?_
    · exact res_cell (p := 6) (ty := 93) (fn := Tryz.f69) rfl _ _ w.heap.size 93 #[.bool neg, .slice A1 1 c1, .slice A2 1 c2] _ rfl (blk3' w3 w.heap.size 93 _ _ _ _ _ _ KR2.out) Tryz.underlying93 rfl frac_size
    · rfl
    exact ⟨rfl, ((Keeps.of_below HB2.out (fun _ => False)).trans (keeps3' w3 w.heap.size _ _ _) (fun i hi h => by omega)).to_below⟩

set_option maxRecDepth 100000 in
set_option maxHeartbeats 2000000 in
theorem reduced_same (w : World) (neg : Bool) (u v : Value) (p : Nat) (hu : Nat1 w u p) (hv : Nat1 w v p) (hp : ¬ p = 1) :
    Calls Tryz.prog 69 #[.bool neg, u, v] w fun e w' => ∃ u' v', e = .returned (.agg #[.bool neg, u', v']) ∧ Nat1 w' u' 1 ∧ Nat1 w' v' 1 ∧ Below w.heap.size w w' := by
  have HU := Lib.hid hu
  have HV := Lib.hid hv
  obtain ⟨A1, c1, rfl⟩ := hu.lit
  obtain ⟨A2, c2, rfl⟩ := hv.lit
  clear hu hv
  have kr := Blk.new w 93 #[.bool false, .slice none 0 0, .slice none 0 0]
  have hb0 := (Below.refl w.heap.size w).alloc (Nat.le_refl _) (.cells #[.bool false, .slice none 0 0, .slice none 0 0] 93)
  have KR := Lib.hid kr
  have HB0 := Lib.hid hb0
  clear kr hb0
  go_enter Tryz.func69, Tryz.ntmps69
  go_wp2_with fail
  refine (zero_any _ _ p (HU.out.alloc _)).mono ?_
  rintro e w1 ⟨rfl, hw1⟩
  generalize w.alloc (.cells #[.bool false, .slice none 0 0, .slice none 0 0] 93) = W at *
  subst hw1
  have HUW := Lib.hid (HU.out.fresh HB0.out)
  have HVW := Lib.hid (HV.out.fresh HB0.out)
  go_wp2_with fail
  refine (one_any _ _ p HVW.out).mono ?_
  rintro e w' ⟨rfl, rfl⟩
  have hd : decide (p = 1) = false := by simpa using hp
  have HGC := Lib.hid (gcd_any w' _ _ p p HUW.out HVW.out)
  go_wp2_with fail
  refine HGC.out.mono ?_
  rintro e w2 ⟨r, rfl, hr, hb2⟩
  rw [Nat.gcd_self] at hr
  have HON := Lib.hid (one_any w2 r p hr)
  have HD1 := Lib.hid (div_same w2 _ _ p (HUW.out.fresh hb2) hr)
  have HR2 := Lib.hid hr
  have HV2 := Lib.hid (HVW.out.fresh hb2)
  have KR2 := Lib.hid (KR.out.below hb2 KR.out.lt)
  have HB2 := Lib.hid ((HB0.out).trans (hb2.mono HB0.out.size))
  clear hr hb2 HGC
  go_wp2_with fail
  refine HON.out.mono ?_
  rintro e w3 ⟨rfl, rfl⟩
  go_wp2_with fail
  refine HD1.out.mono ?_
  rintro e w4 ⟨r1, rfl, hr1, hb4⟩
  have HD2 := Lib.hid (div_same w4 _ _ p (HV2.out.fresh hb4) (HR2.out.fresh hb4))
  have HR4 := Lib.hid hr1
  have KR4 := Lib.hid (KR2.out.below hb4 KR2.out.lt)
  have HB4 := Lib.hid ((HB2.out).trans (hb4.mono HB2.out.size))
  clear hr1 hb4 HD1
  go_wp2_with fail
  refine HD2.out.mono ?_
  rintro e w5 ⟨r2, rfl, hr2, hb5⟩
  have KR5 := Lib.hid (KR4.out.below hb5 KR4.out.lt)
  have HB5 := Lib.hid ((HB4.out).trans (hb5.mono HB4.out.size))
  have hr15 := HR4.out.fresh hb5
  have hlt5 := KR5.out.lt
  have HR15 := Lib.hid hr15
  have HR25 := Lib.hid hr2
  obtain ⟨A4, c4, rfl⟩ := hr15.lit
  obtain ⟨A5, c5, rfl⟩ := hr2.lit
  clear hr2 hb5 HD2 hr15
  have e0 : w5.cell? ⟨w.heap.size, 0, none⟩ = some (.bool false) := KR5.out.cell 0
  have f0 := KR5.out.frozen 0
  have e1 : w5.cell? ⟨w.heap.size, 1, none⟩ = some (.slice none 0 0) := KR5.out.cell 1
  have f1 := KR5.out.frozen 1
  have e2 : w5.cell? ⟨w.heap.size, 2, none⟩ = some (.slice none 0 0) := KR5.out.cell 2
  have f2 := KR5.out.frozen 2
  go_wp2_with fail
  refine bodyPost_ret (v := .agg #[.bool neg, .slice A4 1 c4, .slice A5 1 c5]) ?_ ?_ ?_
  · exact res_cell (p := 6) (ty := 93) (fn := Tryz.f69) rfl _ _ w.heap.size 93 #[.bool neg, .slice A4 1 c4, .slice A5 1 c5] _ rfl (blk3' w5 w.heap.size 93 _ _ _ _ _ _ KR5.out) Tryz.underlying93 rfl frac_size
  · rfl
  exact ⟨_, _, rfl, HR15.out.past KR5.out (keeps3' w5 w.heap.size _ _ _), HR25.out.past KR5.out (keeps3' w5 w.heap.size _ _ _), ((Keeps.of_below HB5.out (fun _ => False)).trans (keeps3' w5 w.heap.size _ _ _) (fun i hi h => by omega)).to_below⟩
end Go.Proofs.YtmlfgokbcafbkaaGreatDoor

namespace Go.Proofs.YtmlfgokbcafbkaaGreatDoor
open Go.RowKit

set_option maxRecDepth 100000 in
theorem fone_any (w : World) : Calls Tryz.prog 74 #[] w fun e w' => ∃ v, e = .returned v ∧ Nat1 w' v 1 ∧ Below w.heap.size w w' := by
  go_enter Tryz.func74, Tryz.ntmps74
  go_wp2_with fail
  refine (of_any w 1 (by omega) (by omega)).mono ?_
  rintro e w1 ⟨r, rfl, hr, hb⟩
  have HR := Lib.hid hr
  have HB := Lib.hid hb
  clear hr hb
  go_wp2_with fail
  go_ret
  exact ⟨_, rfl, HR.out, HB.out⟩
set_option maxRecDepth 100000 in
set_option maxHeartbeats 2000000 in
theorem fint_any (w : World) (x : Nat) (h1 : 1 ≤ x) (h2 : x < 1000000000) :
    Calls Tryz.prog 53 #[.int .i64 x] w fun e w' => ∃ u' v', e = .returned (.agg #[.bool false, u', v']) ∧ Nat1 w' u' x ∧ Nat1 w' v' 1 ∧ Below w.heap.size w w' := by
  have hwr : IntKind.u64.wrap (x : Int) = x := IntWalk.u64_in _ ⟨by omega, by omega⟩
  have H1 := Lib.hid h1
  have H2 := Lib.hid h2
  clear h1 h2
  have kr := Blk.new w 93 #[.bool false, .slice none 0 0, .slice none 0 0]
  have hb0 := (Below.refl w.heap.size w).alloc (Nat.le_refl _) (.cells #[.bool false, .slice none 0 0, .slice none 0 0] 93)
  have KR := Lib.hid kr
  have HB0 := Lib.hid hb0
  clear kr hb0
  have hlt : ((x : Int) < 0) = False := by simp
  go_enter Tryz.func53, Tryz.ntmps53
  go_wp2_with fail
  refine (of_any _ x H1.out H2.out).mono ?_
  rintro e w2 ⟨r1, rfl, hr1, hb1⟩
  generalize w.alloc (.cells #[.bool false, .slice none 0 0, .slice none 0 0] 93) = W at *
  have KR2 := Lib.hid (KR.out.below hb1 KR.out.lt)
  have HB2 := Lib.hid (HB0.out.trans (hb1.mono HB0.out.size))
  have HR1 := Lib.hid hr1
  clear hr1 hb1
  go_wp2_with fail
  refine (fone_any _).mono ?_
  rintro e w5 ⟨r2, rfl, hr2, hb5⟩
  have hr15 := HR1.out.fresh hb5
  have KR5 := Lib.hid (KR2.out.below hb5 KR2.out.lt)
  have HB5 := Lib.hid (HB2.out.trans (hb5.mono HB2.out.size))
  have HR15 := Lib.hid hr15
  have HR25 := Lib.hid hr2
  obtain ⟨A4, c4, rfl⟩ := hr15.lit
  obtain ⟨A5, c5, rfl⟩ := hr2.lit
  clear hr2 hb5 hr15
  have e0 : w5.cell? ⟨w.heap.size, 0, none⟩ = some (.bool false) := KR5.out.cell 0
  have f0 := KR5.out.frozen 0
  have e1 : w5.cell? ⟨w.heap.size, 1, none⟩ = some (.slice none 0 0) := KR5.out.cell 1
  have f1 := KR5.out.frozen 1
  have e2 : w5.cell? ⟨w.heap.size, 2, none⟩ = some (.slice none 0 0) := KR5.out.cell 2
  have f2 := KR5.out.frozen 2
  go_wp2_with fail
  refine bodyPost_ret (v := .agg #[.bool false, .slice A4 1 c4, .slice A5 1 c5]) ?_ ?_ ?_
  · exact res_cell (p := 2) (ty := 93) (fn := Tryz.f53) rfl _ _ w.heap.size 93 #[.bool false, .slice A4 1 c4, .slice A5 1 c5] _ rfl (blk3' w5 w.heap.size 93 _ _ _ _ _ _ KR5.out) Tryz.underlying93 rfl frac_size
  · rfl
  exact ⟨_, _, rfl, HR15.out.past KR5.out (keeps3' w5 w.heap.size _ _ _), HR25.out.past KR5.out (keeps3' w5 w.heap.size _ _ _), ((Keeps.of_below HB5.out (fun _ => False)).trans (keeps3' w5 w.heap.size _ _ _) (fun i hi h => by omega)).to_below⟩

theorem far3 (w : World) (g b o : Nat) (a0 a1 a2 : Value) (hne : b ≠ g) : (((w.setCell ⟨g, 0, none⟩ a0).setCell ⟨g, 1, none⟩ a1).setCell ⟨g, 2, none⟩ a2).cell? ⟨b, o, none⟩ = w.cell? ⟨b, o, none⟩ := by
  unfold World.cell?
  rw [Below.heap_setCell _ ⟨g, 2, none⟩ _ b hne, Below.heap_setCell _ ⟨g, 1, none⟩ _ b hne, Below.heap_setCell _ ⟨g, 0, none⟩ _ b hne]
theorem below_start {W w1 : World} (h : Below W.drew.heap.size W.drew w1) : Below W.heap.size W w1 := h.drewed
set_option maxRecDepth 100000 in
set_option maxHeartbeats 4000000 in
theorem fdiv_any (w : World) (n1 d1 n2 d2 : Value) (p1 q1 p2 q2 p q : Nat) (h1 : Nat1 w n1 p1) (h2 : Nat1 w d1 q1) (h3 : Nat1 w n2 p2) (h4 : Nat1 w d2 q2)
    (hp : p1 * q2 = p) (hq : q1 * p2 = q) (hp2 : p < 1000000000) (hq2 : q < 1000000000) (hg : Nat.gcd p q = 1) :
    Calls Tryz.prog 63 #[.agg #[.bool false, n1, d1], .agg #[.bool false, n2, d2]] w fun e w' => ∃ u' v', e = .returned (.agg #[.bool false, u', v']) ∧ Nat1 w' u' p ∧ Nat1 w' v' q ∧ Below w.heap.size w w' := by
  have H1 := Lib.hid h1
  have H2 := Lib.hid h2
  have H3 := Lib.hid h3
  have H4 := Lib.hid h4
  have HG := Lib.hid hg
  obtain ⟨A1, c1, rfl⟩ := h1.lit
  obtain ⟨A2, c2, rfl⟩ := h2.lit
  obtain ⟨A3, c3, rfl⟩ := h3.lit
  obtain ⟨A4, c4, rfl⟩ := h4.lit
  have HM1 : Hid (∀ W, Below w.heap.size w W → Calls Tryz.prog 68 #[.slice A1 1 c1, .slice A4 1 c4] W fun e w' => ∃ r, e = .returned r ∧ Nat1 w' r p ∧ Below W.heap.size W w') := Lib.hid fun W hW => mul_any W _ _ p1 q2 p (H1.out.fresh hW) (H4.out.fresh hW) hp hp2
  have HM2 : Hid (∀ W, Below w.heap.size w W → Calls Tryz.prog 68 #[.slice A2 1 c2, .slice A3 1 c3] W fun e w' => ∃ r, e = .returned r ∧ Nat1 w' r q ∧ Below W.heap.size W w') := Lib.hid fun W hW => mul_any W _ _ q1 p2 q (H2.out.fresh hW) (H3.out.fresh hW) hq hq2
  clear h1 h2 h3 h4 hp hq hp2 hq2 hg
  have ka := ((Blk.new w 93 #[.bool false, .slice A1 1 c1, .slice A2 1 c2]).alloc (.cells #[.bool false, .slice A3 1 c3, .slice A4 1 c4] 93)).alloc (.cells #[.bool false, .slice none 0 0, .slice none 0 0] 93)
  have kb := (Blk.new (w.alloc (.cells #[.bool false, .slice A1 1 c1, .slice A2 1 c2] 93)) 93 #[.bool false, .slice A3 1 c3, .slice A4 1 c4]).alloc (.cells #[.bool false, .slice none 0 0, .slice none 0 0] 93)
  have kr := Blk.new ((w.alloc (.cells #[.bool false, .slice A1 1 c1, .slice A2 1 c2] 93)).alloc (.cells #[.bool false, .slice A3 1 c3, .slice A4 1 c4] 93)) 93 #[.bool false, .slice none 0 0, .slice none 0 0]
  have hb0 := (((Below.refl w.heap.size w).alloc (Nat.le_refl _) (.cells #[.bool false, .slice A1 1 c1, .slice A2 1 c2] 93)).alloc (by simp) (.cells #[.bool false, .slice A3 1 c3, .slice A4 1 c4] 93)).alloc (by simp; omega) (.cells #[.bool false, .slice none 0 0, .slice none 0 0] 93)
  simp only [World.size_alloc] at kb kr
  have KA := Lib.hid ka
  have KB := Lib.hid kb
  have KR := Lib.hid kr
  have HB0 := Lib.hid hb0
  clear ka kb kr hb0
  go_enter Tryz.func63, Tryz.ntmps63
  go_wp2_with fail
  generalize ((w.alloc (.cells #[.bool false, .slice A1 1 c1, .slice A2 1 c2] 93)).alloc (.cells #[.bool false, .slice A3 1 c3, .slice A4 1 c4] 93)).alloc (.cells #[.bool false, .slice none 0 0, .slice none 0 0] 93) = W at *
  have a0 := KA.out.cell 0
  have a1 := KA.out.cell 1
  have a2 := KA.out.cell 2
  have b0 := KB.out.cell 0
  have b1 := KB.out.cell 1
  have b2 := KB.out.cell 2
  have za := KA.out.lt
  have zb := KB.out.lt
  have zr0 : w.heap.size ≠ w.heap.size + 1 + 1 := by omega
  have zr1 : w.heap.size + 1 ≠ w.heap.size + 1 + 1 := by omega
  simp only [List.getElem?_toArray, List.getElem?_cons_zero, List.getElem?_cons_succ] at a0 a1 a2 b0 b1 b2
  go_region_held3 (fun w' => w'.cell? ⟨w.heap.size, 0, none⟩ = some (.bool false) ∧ w'.cell? ⟨w.heap.size, 1, none⟩ = some (.slice A1 1 c1) ∧ w'.cell? ⟨w.heap.size, 2, none⟩ = some (.slice A2 1 c2) ∧ w'.cell? ⟨w.heap.size + 1, 0, none⟩ = some (.bool false) ∧ w'.cell? ⟨w.heap.size + 1, 1, none⟩ = some (.slice A3 1 c3) ∧ w'.cell? ⟨w.heap.size + 1, 2, none⟩ = some (.slice A4 1 c4)) (first | (go_keep; done) | exact ⟨(be _ _ za).trans a0, (be _ _ za).trans a1, (be _ _ za).trans a2, (be _ _ zb).trans b0, (be _ _ zb).trans b1, (be _ _ zb).trans b2⟩ | exact ⟨(bd _ _ za).trans a0, (bd _ _ za).trans a1, (bd _ _ za).trans a2, (bd _ _ zb).trans b0, (bd _ _ zb).trans b1, (bd _ _ zb).trans b2⟩ | exact ⟨(bc _ _ za).trans a0, (bc _ _ za).trans a1, (bc _ _ za).trans a2, (bc _ _ zb).trans b0, (bc _ _ zb).trans b1, (bc _ _ zb).trans b2⟩ | exact ⟨(far3 _ _ _ _ _ _ _ zr0).trans s0, (far3 _ _ _ _ _ _ _ zr0).trans s1, (far3 _ _ _ _ _ _ _ zr0).trans s2, (far3 _ _ _ _ _ _ _ zr1).trans s3, (far3 _ _ _ _ _ _ _ zr1).trans s4, (far3 _ _ _ _ _ _ _ zr1).trans s5⟩) ((first
    | (go_at_call 68; with_reducible show Calls _ _ #[Value.slice A1 1 c1, Value.slice A4 1 c4] _ _; refine (HM1.out _ HB0.out.drew).mono ?_; rintro e w1 ⟨r1, rfl, hr1, hb1⟩; replace hb1 := below_start hb1; obtain ⟨B1, k1, rfl⟩ := hr1.lit; have bc := (bcell hb1).1)
    | (go_at_call 68; with_reducible show Calls _ _ #[Value.slice A2 1 c2, Value.slice A3 1 c3] _ _; refine (HM2.out _ (HB0.out.trans (hb1.mono HB0.out.size))).mono ?_; rintro e w2 ⟨r2, rfl, hr2, hb2⟩; obtain ⟨B2, k2, rfl⟩ := hr2.lit; have bd : ∀ (b o : Nat), b < W.heap.size → w2.cell? ⟨b, o, none⟩ = W.cell? ⟨b, o, none⟩ := fun b o h => ((bcell hb2).1 b o (Nat.lt_of_lt_of_le h hb1.size)).trans (bc b o h))
    | (go_at_call 69; refine (reduced_co _ _ _ _ p q (hr1.fresh hb2) hr2 HG.out).mono ?_; rintro e w3 ⟨rfl, hb3⟩; have be : ∀ (b o : Nat), b < W.heap.size → w3.cell? ⟨b, o, none⟩ = W.cell? ⟨b, o, none⟩ := fun b o h => ((bcell hb3).1 b o (Nat.lt_of_lt_of_le (Nat.lt_of_lt_of_le h hb1.size) hb2.size)).trans (bd b o h)
       have KR3 := ((KR.out.below hb1 KR.out.lt).below hb2 (KR.out.below hb1 KR.out.lt).lt).below hb3 ((KR.out.below hb1 KR.out.lt).below hb2 (KR.out.below hb1 KR.out.lt).lt).lt
       have s0 := (be _ _ za).trans a0
       have s1 := (be _ _ za).trans a1
       have s2 := (be _ _ za).trans a2
       have s3 := (be _ _ zb).trans b0
       have s4 := (be _ _ zb).trans b1
       have s5 := (be _ _ zb).trans b2
       have e0 := KR3.cell 0
       have e1 := KR3.cell 1
       have e2 := KR3.cell 2
       have f0 := KR3.frozen 0
       have f1 := KR3.frozen 1
       have f2 := KR3.frozen 2
       simp only [List.getElem?_toArray, List.getElem?_cons_zero, List.getElem?_cons_succ] at e0 e1 e2)))
  have KR3 := Lib.hid KR3
  have hn1 := (hr1.fresh hb2).fresh hb3
  have hn2 := hr2.fresh hb3
  have HN1 := Lib.hid (hn1.past KR3.out (keeps3' w3 _ (.bool false) (.slice B1 1 k1) (.slice B2 1 k2)))
  have HN2 := Lib.hid (hn2.past KR3.out (keeps3' w3 _ (.bool false) (.slice B1 1 k1) (.slice B2 1 k2)))
  have HBE := Lib.hid (HB0.out.trans ((hb1.trans ((hb2.mono hb1.size).trans (hb3.mono (Nat.le_trans hb1.size hb2.size)))).mono HB0.out.size))
  clear hn1 hn2 hr1 hr2 hb1 hb2 hb3 bc bd be a0 a1 a2 b0 b1 b2 s0 s1 s2 s3 s4 s5 e0 e1 e2 f0 f1 f2 HM1 HM2
  go_wp2_with fail
  refine bodyPost_ret (v := .agg #[.bool false, .slice B1 1 k1, .slice B2 1 k2]) ?_ ?_ ?_
  · exact res_cell (p := 4) (ty := 93) (fn := Tryz.f63) rfl _ _ (w.heap.size + 1 + 1) 93 #[.bool false, .slice B1 1 k1, .slice B2 1 k2] _ rfl (blk3' w3 _ 93 _ _ _ _ _ _ KR3.out) Tryz.underlying93 rfl frac_size
  · rfl
  exact ⟨_, _, rfl, HN1.out, HN2.out, ((Keeps.of_below HBE.out (fun _ => False)).trans (keeps3' w3 _ _ _ _) (fun i hi h => by omega)).to_below⟩
end Go.Proofs.YtmlfgokbcafbkaaGreatDoor

namespace Go.Proofs.YtmlfgokbcafbkaaGreatDoor
open Go.RowKit

set_option maxRecDepth 100000 in
set_option maxHeartbeats 4000000 in
theorem fadd_half (w : World) (n1 d1 n2 d2 : Value) (h1 : Nat1 w n1 1) (h2 : Nat1 w d1 2) (h3 : Nat1 w n2 1) (h4 : Nat1 w d2 2) :
    Calls Tryz.prog 52 #[.agg #[.bool false, n1, d1], .agg #[.bool false, n2, d2]] w fun e w' => ∃ u' v', e = .returned (.agg #[.bool false, u', v']) ∧ Nat1 w' u' 1 ∧ Nat1 w' v' 1 ∧ Below w.heap.size w w' := by
  obtain ⟨A1, c1, rfl⟩ := h1.lit
  obtain ⟨A2, c2, rfl⟩ := h2.lit
  obtain ⟨A3, c3, rfl⟩ := h3.lit
  obtain ⟨A4, c4, rfl⟩ := h4.lit
  have HO : Hid (∀ W, Below w.heap.size w W → Calls Tryz.prog 67 #[.slice A2 1 c2] W fun e w' => e = .returned (.bool false) ∧ w' = W) := Lib.hid fun W hW => one_any W _ 2 (h2.fresh hW)
  have HM1 : Hid (∀ W, Below w.heap.size w W → Calls Tryz.prog 68 #[.slice A1 1 c1, .slice A4 1 c4] W fun e w' => ∃ r, e = .returned r ∧ Nat1 w' r 2 ∧ Below W.heap.size W w') := Lib.hid fun W hW => mul_any W _ _ 1 2 2 (h1.fresh hW) (h4.fresh hW) rfl (by omega)
  have HM2 : Hid (∀ W, Below w.heap.size w W → Calls Tryz.prog 68 #[.slice A3 1 c3, .slice A2 1 c2] W fun e w' => ∃ r, e = .returned r ∧ Nat1 w' r 2 ∧ Below W.heap.size W w') := Lib.hid fun W hW => mul_any W _ _ 1 2 2 (h3.fresh hW) (h2.fresh hW) rfl (by omega)
  have HM3 : Hid (∀ W, Below w.heap.size w W → Calls Tryz.prog 68 #[.slice A2 1 c2, .slice A4 1 c4] W fun e w' => ∃ r, e = .returned r ∧ Nat1 w' r 4 ∧ Below W.heap.size W w') := Lib.hid fun W hW => mul_any W _ _ 2 2 4 (h2.fresh hW) (h4.fresh hW) rfl (by omega)
  clear h1 h2 h3 h4
  have ka := ((Blk.new w 93 #[.bool false, .slice A1 1 c1, .slice A2 1 c2]).alloc (.cells #[.bool false, .slice A3 1 c3, .slice A4 1 c4] 93)).alloc (.cells #[.bool false, .slice none 0 0, .slice none 0 0] 93)
  have kb := (Blk.new (w.alloc (.cells #[.bool false, .slice A1 1 c1, .slice A2 1 c2] 93)) 93 #[.bool false, .slice A3 1 c3, .slice A4 1 c4]).alloc (.cells #[.bool false, .slice none 0 0, .slice none 0 0] 93)
  have kr := Blk.new ((w.alloc (.cells #[.bool false, .slice A1 1 c1, .slice A2 1 c2] 93)).alloc (.cells #[.bool false, .slice A3 1 c3, .slice A4 1 c4] 93)) 93 #[.bool false, .slice none 0 0, .slice none 0 0]
  have hb0 := (((Below.refl w.heap.size w).alloc (Nat.le_refl _) (.cells #[.bool false, .slice A1 1 c1, .slice A2 1 c2] 93)).alloc (by simp) (.cells #[.bool false, .slice A3 1 c3, .slice A4 1 c4] 93)).alloc (by simp; omega) (.cells #[.bool false, .slice none 0 0, .slice none 0 0] 93)
  simp only [World.size_alloc] at kb kr
  have KA := Lib.hid ka
  have KB := Lib.hid kb
  have KR := Lib.hid kr
  have HB0 := Lib.hid hb0
  clear ka kb kr hb0
  go_enter Tryz.func52, Tryz.ntmps52
  go_wp2_with fail
  generalize ((w.alloc (.cells #[.bool false, .slice A1 1 c1, .slice A2 1 c2] 93)).alloc (.cells #[.bool false, .slice A3 1 c3, .slice A4 1 c4] 93)).alloc (.cells #[.bool false, .slice none 0 0, .slice none 0 0] 93) = W at *
  have a0 := KA.out.cell 0
  have a1 := KA.out.cell 1
  have a2 := KA.out.cell 2
  have b0 := KB.out.cell 0
  have b1 := KB.out.cell 1
  have b2 := KB.out.cell 2
  simp only [List.getElem?_toArray, List.getElem?_cons_zero, List.getElem?_cons_succ] at a0 a1 a2 b0 b1 b2
  go_region_held3 (fun w' => w'.cell? ⟨w.heap.size, 1, none⟩ = some (.slice A1 1 c1) ∧ w'.cell? ⟨w.heap.size + 1, 1, none⟩ = some (.slice A3 1 c3)) (go_keep) (fail)
  have KA1 := Lib.hid KA.out.drew
  have KB1 := Lib.hid KB.out.drew
  have KR1 := Lib.hid KR.out.drew
  have HB1 := Lib.hid HB0.out.drew
  clear KA KB KR HB0 a0 a1 a2 b0 b1 b2
  generalize W.drew = W1 at *
  have a2 : W1.cell? ⟨w.heap.size, 2, none⟩ = some (.slice A2 1 c2) := KA1.out.cell 2
  go_wp2_with fail
  refine (HO.out _ HB1.out).mono ?_
  rintro e w' ⟨rfl, rfl⟩
  go_wp2_with fail
  have a1 : w'.cell? ⟨w.heap.size, 1, none⟩ = some (.slice A1 1 c1) := KA1.out.cell 1
  have b1 : w'.cell? ⟨w.heap.size + 1, 1, none⟩ = some (.slice A3 1 c3) := KB1.out.cell 1
  have b2 : w'.cell? ⟨w.heap.size + 1, 2, none⟩ = some (.slice A4 1 c4) := KB1.out.cell 2
  have za := KA1.out.lt
  have zb := KB1.out.lt
  clear HO
  go_region_held3 (fun w' => w'.cell? ⟨w.heap.size, 1, none⟩ = some (.slice A1 1 c1) ∧ w'.cell? ⟨w.heap.size, 2, none⟩ = some (.slice A2 1 c2) ∧ w'.cell? ⟨w.heap.size + 1, 1, none⟩ = some (.slice A3 1 c3) ∧ w'.cell? ⟨w.heap.size + 1, 2, none⟩ = some (.slice A4 1 c4)) (first | (go_keep; done) | exact ⟨(be _ _ za).trans a1, (be _ _ za).trans a2, (be _ _ zb).trans b1, (be _ _ zb).trans b2⟩ | exact ⟨(bd _ _ za).trans a1, (bd _ _ za).trans a2, (bd _ _ zb).trans b1, (bd _ _ zb).trans b2⟩ | exact ⟨(bc _ _ za).trans a1, (bc _ _ za).trans a2, (bc _ _ zb).trans b1, (bc _ _ zb).trans b2⟩) ((first
    | (go_at_call 68; with_reducible show Calls _ _ #[Value.slice A1 1 c1, Value.slice A4 1 c4] _ _; refine (HM1.out _ HB1.out.drew).mono ?_; rintro e w1 ⟨r1, rfl, hr1, hb1⟩; replace hb1 := below_start hb1; have bc := (bcell hb1).1)
    | (go_at_call 68; with_reducible show Calls _ _ #[Value.slice A3 1 c3, Value.slice A2 1 c2] _ _; refine (HM2.out _ (HB1.out.trans (hb1.mono HB1.out.size))).mono ?_; rintro e w2 ⟨r2, rfl, hr2, hb2⟩; have bd : ∀ (b o : Nat), b < w'.heap.size → w2.cell? ⟨b, o, none⟩ = w'.cell? ⟨b, o, none⟩ := fun b o h => ((bcell hb2).1 b o (Nat.lt_of_lt_of_le h hb1.size)).trans (bc b o h))
    | (go_at_call 68; with_reducible show Calls _ _ #[Value.slice A2 1 c2, Value.slice A4 1 c4] _ _; refine (HM3.out _ ((HB1.out.trans (hb1.mono HB1.out.size)).trans (hb2.mono (HB1.out.trans (hb1.mono HB1.out.size)).size))).mono ?_; rintro e w3 ⟨r3, rfl, hr3, hb3⟩; have be : ∀ (b o : Nat), b < w'.heap.size → w3.cell? ⟨b, o, none⟩ = w'.cell? ⟨b, o, none⟩ := fun b o h => ((bcell hb3).1 b o (Nat.lt_of_lt_of_le (Nat.lt_of_lt_of_le h hb1.size) hb2.size)).trans (bd b o h))))
  have hb13 : Below w'.heap.size w' w3 := hb1.trans ((hb2.mono hb1.size).trans (hb3.mono (Nat.le_trans hb1.size hb2.size)))
  have KA3 := Lib.hid (KA1.out.below hb13 KA1.out.lt)
  have KB3 := Lib.hid (KB1.out.below hb13 KB1.out.lt)
  have KR3 := Lib.hid (KR1.out.below hb13 KR1.out.lt)
  have HB3 := Lib.hid (HB1.out.trans (hb13.mono HB1.out.size))
  have HADD := Lib.hid (fun W (hW : Below w3.heap.size w3 W) => add_any W r1 r2 2 2 4 (((hr1.fresh hb2).fresh hb3).fresh hW) ((hr2.fresh hb3).fresh hW) rfl (by omega))
  have HRED : Hid (∀ W r4, Below w3.heap.size w3 W → Nat1 W r4 4 → Calls Tryz.prog 69 #[.bool false, r4, r3] W fun e w' => ∃ u' v', e = .returned (.agg #[.bool false, u', v']) ∧ Nat1 w' u' 1 ∧ Nat1 w' v' 1 ∧ Below W.heap.size W w') := Lib.hid (fun W r4 hW h4 => reduced_same W false r4 r3 4 h4 (hr3.fresh hW) (by decide))
  obtain ⟨B1, k1, rfl⟩ := hr1.lit
  obtain ⟨B2, k2, rfl⟩ := hr2.lit
  obtain ⟨B3, k3, rfl⟩ := hr3.lit
  clear hb1 hb2 hb3 hb13 hr1 hr2 hr3 bc bd be a1 a2 b1 b2 HM1 HM2 HM3 za zb KA1 KB1 KR1 HB1
  have a0 : w3.cell? ⟨w.heap.size, 0, none⟩ = some (.bool false) := KA3.out.cell 0
  have b0 : w3.cell? ⟨w.heap.size + 1, 0, none⟩ = some (.bool false) := KB3.out.cell 0
  have za := KA3.out.lt
  have zr0 : w.heap.size ≠ w.heap.size + 1 + 1 := by omega
  have BREF := Lib.hid (Below.refl w3.heap.size w3).drew
  go_wp2_with fail
  go_region_held3 (fun w' => w'.cell? ⟨w.heap.size, 0, none⟩ = some (.bool false)) (first | (go_keep; done) | exact s5 | exact s4 | exact (far3 _ _ _ _ _ _ _ zr0).trans s5) ((first
    | (go_at_call 70; refine (HADD.out _ BREF.out).mono ?_; rintro e w4 ⟨r4, rfl, hr4, hb4⟩; replace hb4 := below_start hb4; have s4 : w4.cell? ⟨w.heap.size, 0, none⟩ = some (.bool false) := ((bcell hb4).1 _ _ za).trans a0; have z4 : w.heap.size < w4.heap.size := Nat.lt_of_lt_of_le za hb4.size)
    | (go_at_call 69; refine (HRED.out _ _ hb4 hr4).mono ?_; rintro e w5 ⟨x5, y5, rfl, hx5, hy5, hb5⟩; obtain ⟨D1, m1, rfl⟩ := hx5.lit; obtain ⟨D2, m2, rfl⟩ := hy5.lit
       have s5 : w5.cell? ⟨w.heap.size, 0, none⟩ = some (.bool false) := ((bcell hb5).1 _ _ z4).trans s4
       have KR5 := (KR3.out.below hb4 KR3.out.lt).below hb5 (KR3.out.below hb4 KR3.out.lt).lt
       have e0 := KR5.cell 0
       have e1 := KR5.cell 1
       have e2 := KR5.cell 2
       have f0 := KR5.frozen 0
       have f1 := KR5.frozen 1
       have f2 := KR5.frozen 2
       simp only [List.getElem?_toArray, List.getElem?_cons_zero, List.getElem?_cons_succ] at e0 e1 e2)))
  have KR6 := Lib.hid KR5
  have HN1 := Lib.hid (hx5.past KR6.out (keeps3' w5 _ (.bool false) (.slice D1 1 m1) (.slice D2 1 m2)))
  have HN2 := Lib.hid (hy5.past KR6.out (keeps3' w5 _ (.bool false) (.slice D1 1 m1) (.slice D2 1 m2)))
  have HBE := Lib.hid (HB3.out.trans ((hb4.trans (hb5.mono hb4.size)).mono HB3.out.size))
  clear hb4 hb5 hr4 hx5 hy5 s4 s5 z4 e0 e1 e2 f0 f1 f2 KR5 a0 b0 za HADD HRED
  go_wp2_with fail
  refine bodyPost_ret (v := .agg #[.bool false, .slice D1 1 m1, .slice D2 1 m2]) ?_ ?_ ?_
  · exact res_cell (p := 4) (ty := 93) (fn := Tryz.f52) rfl _ _ (w.heap.size + 1 + 1) 93 #[.bool false, .slice D1 1 m1, .slice D2 1 m2] _ rfl (blk3' w5 _ 93 _ _ _ _ _ _ KR6.out) Tryz.underlying93 rfl frac_size
  · rfl
  exact ⟨_, _, rfl, HN1.out, HN2.out, ((Keeps.of_below HBE.out (fun _ => False)).trans (keeps3' w5 _ _ _ _) (fun i hi h => by omega)).to_below⟩
end Go.Proofs.YtmlfgokbcafbkaaGreatDoor

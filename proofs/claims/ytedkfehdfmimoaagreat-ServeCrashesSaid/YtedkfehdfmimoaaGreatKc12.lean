/- record: its first region. record: its second region. -/
import Derived.Test.YtedkfehdfmimoaaGreatKc10
import Derived.StillTailTactics
import Derived.Test.YtedkfehdfmimoaaGreatKc11
namespace Go.Proofs.YtedkfehdfmimoaaGreat
open Go.RowKit

noncomputable def recordR (n : Nat) : Code := (Tryz.f33.body.bind (findRegion n)).getD .skip

set_option maxRecDepth 100000 in
set_option maxHeartbeats 2000000 in
theorem record_r0 (w : World) (q : Nat) (T : Nat → Prop) (ad : Addr) (c : Nat) (kind : Int) (l : List Int) (hl : Slc w T (.slice (some ad) (l.length + 1) c) (kind :: l)) (hk : 0 ≤ kind ∧ kind ≤ 255)
    (hw : inRange (-9223372036854775808) 9223372036854775807 l) (hn : l.length ≤ 100)
    (s2 s3 s4 s5 s6 s7 s8 s9 s10 s11 s12 s13 s14 s15 s16 s17 s18 s19 s20 s21 s22 s23 s24 s25 s26 s27 s28 s29 s30 s31 s32 s33 s34 s35 s36 s37 s38 s39 : Value) (Q : Exit → Act → World → Prop)
    (hQ : ∀ (v : Value) (w' : World) (y6 y7 y8 y9 y10 y11 : Value), Own w' (fun g => w.heap.size ≤ g) 5 1 v (1 + 4 * l.length) (bytes (bodyF kind l)) → Below w.heap.size w w' → Q .normal ⟨#[.pointer (some ⟨q, 0, none⟩), .slice (some ad) (l.length + 1) c, s2, s3, v, s5, y6, y7, y8, y9, y10, y11, s12, s13, s14, s15, s16, s17, s18, s19, s20, s21, s22, s23, s24, s25, s26, s27, s28, s29, s30, s31, s32, s33, s34, s35, s36, s37, s38, s39], []⟩ w') :
    Code.wp Tryz.prog (recordR 0) Q ⟨#[.pointer (some ⟨q, 0, none⟩), .slice (some ad) (l.length + 1) c, s2, s3, s4, s5, s6, s7, s8, s9, s10, s11, s12, s13, s14, s15, s16, s17, s18, s19, s20, s21, s22, s23, s24, s25, s26, s27, s28, s29, s30, s31, s32, s33, s34, s35, s36, s37, s38, s39], []⟩ w := by
  conv => arg 2; whnf
  have hc0 : w.cell? ad = some (.int .i64 kind) := by
    obtain ⟨-, ad', e, hc⟩ := hl.at_ 0 (by simp)
    injection e with e
    subst e
    rwa [show ad.add 0 = ad from by simp [Addr.add]] at hc
  have hcut := hl.cut 1 l.length (by simp; omega)
  have ec : ((kind :: l).drop 1).take l.length = l := by simp
  rw [ec] at hcut
  have hlc : l.length + 1 ≤ c := by
    obtain ⟨A', c', e, -, h1, -⟩ := hl
    injection e with _ _ e
    subst e
    simpa using h1
  have HW := Lib.hid hw
  obtain ⟨k1, k2⟩ := hk
  clear ec hw
  have hadl : ad.block < w.heap.size := Slc.blk (k := 0) hl.old (by simp)
  by_cases hc1 : c = 1
  · obtain rfl : l = [] := List.length_eq_zero_iff.1 (by omega)
    subst hc1
    have e : cutv (.slice (some ad) 1 1) 1 0 = .slice (some ad) 0 0 := by simp [cutv]
    simp only [List.length_nil, Nat.zero_add] at hcut hQ ⊢
    rw [e] at hcut
    have HCUT := Lib.hid hcut
    clear hcut e hlc hl
    go_region_held3 (fun w' => w'.cell? ad = some (.int .i64 kind)) (go_keep) ((go_at_call 64; refine (body_any _ _ _ ⟨k1, k2⟩ _ _ HCUT.out.drew (by omega) HW.out).mono ?_; rintro e w1 ⟨v, rfl, ho, hb⟩; have hcell := hb.cell (p := ad) hadl))
    exact hQ _ _ _ _ _ _ _ _ ho hb.drewed
  · obtain ⟨d, rfl⟩ : ∃ d, c = d + 2 := ⟨c - 2, by omega⟩
    obtain ⟨n, hnl⟩ : ∃ n, n = l.length + 1 := ⟨_, rfl⟩
    have e : cutv (.slice (some ad) (l.length + 1) (d + 2)) 1 l.length = .slice (some (ad.add 1)) (n - 1) (d + 1) := by simp [cutv, hnl]
    rw [e] at hcut
    have HCUT := Lib.hid hcut
    rw [← hnl] at hQ ⊢
    have y0 : 0 < n := by omega
    have y1 : (1 : Int) ≤ n := by omega
    have y2 : n ≤ d + 2 := by omega
    have y3 : (n : Int) ≤ d + 2 := by omega
    have y4 : 1 ≤ n := by omega
    clear hcut e hlc hl
    have HN := Lib.hid hnl
    clear hnl
    go_region_held3 (fun w' => w'.cell? ad = some (.int .i64 kind)) (go_keep) ((go_at_call 64; refine (body_any _ _ _ ⟨k1, k2⟩ _ _ HCUT.out.drew (by omega) HW.out).mono ?_; rintro e w1 ⟨v, rfl, ho, hb⟩; have hcell := hb.cell (p := ad) hadl))
    refine hQ _ _ _ _ _ _ _ _ ho hb.drewed
end Go.Proofs.YtedkfehdfmimoaaGreat

namespace Go.Proofs.YtedkfehdfmimoaaGreat
open Go.RowKit

theorem Reads.below {w w' : World} {T : Nat → Prop} {size n : Nat} {A : Option Addr} {xs : List Value} {B : Nat} (h : Reads w T size A n xs) (hb : Below B w w') (hT : ∀ b, T b → b < B) : Reads w' T size A n xs :=
  h.keep hb.size fun p _ ht => hb.cell (hT _ ht)
set_option maxRecDepth 100000 in
set_option maxHeartbeats 4000000 in
theorem record_r1 (w : World) (q : Nat) (TB : Nat → Prop) (Ab : Option Addr) (nb cb : Nat) (b : List Int) (hb : Reads w TB 1 Ab nb (bytes b)) (hnb : nb ≤ 1000000) (rec : Nat) (hrec : rec ≤ 1000000)
    (cs : Array Value) (hs : Blk w q 70 cs) (hcs : cs[20]? = some (.int .i64 rec))
    (s1 s2 s3 s5 s6 s7 s8 s9 s10 s11 s12 s13 s14 s15 s16 s17 s18 s19 s20 s21 s22 s23 s24 s25 s26 s27 s28 s29 s30 s31 s32 s33 s34 s35 s36 s37 s38 s39 : Value) (Q : Exit → Act → World → Prop)
    (hQ : ∀ (v : Value) (w' : World) (y12 y13 y14 y15 y16 y17 y18 y19 y20 y21 y22 : Value), Own w' (fun g => w.heap.size ≤ g) 5 1 v (2 + 4 + nb) (bytes (lowF nb 2 ++ lowF rec 4 ++ b)) → Below w.heap.size w w' → Q .normal ⟨#[.pointer (some ⟨q, 0, none⟩), s1, s2, s3, .slice Ab nb cb, v, s6, s7, s8, s9, s10, s11, y12, y13, y14, y15, y16, y17, y18, y19, y20, y21, y22, s23, s24, s25, s26, s27, s28, s29, s30, s31, s32, s33, s34, s35, s36, s37, s38, s39], []⟩ w') :
    Code.wp Tryz.prog (recordR 1) Q ⟨#[.pointer (some ⟨q, 0, none⟩), s1, s2, s3, .slice Ab nb cb, s5, s6, s7, s8, s9, s10, s11, s12, s13, s14, s15, s16, s17, s18, s19, s20, s21, s22, s23, s24, s25, s26, s27, s28, s29, s30, s31, s32, s33, s34, s35, s36, s37, s38, s39], []⟩ w := by
  conv => arg 2; whnf
  obtain ⟨i0, hi, hz0, hz1, hz2⟩ := info_parts u8_info
  have hc := (hs.cell 20).trans hcs
  have hsz := hs.lt
  have hbo := hb.old
  clear hcs hs hb
  go_region_held3 (fun w' => w'.cell? ⟨q, 20, none⟩ = some (.int .i64 rec)) (go_keep) ((first
    | (go_at_call 57; (with_reducible show Calls _ _ #[_, Value.int IntKind.i64 2] _ _); refine (low_any _ (nb : Int) ⟨by omega, by omega⟩ 2 (by omega)).mono ?_; rintro e wA ⟨uA, rfl, hoA, hbA⟩; obtain ⟨AA, cA, rfl, -, -⟩ := hoA.shape; have hcA := hbA.cell (p := ⟨q, 20, none⟩) (by first | exact hsz | exact Nat.lt_of_lt_of_le hsz hcur.size);
        replace hoA := hoA.more (T' := fun g => w.heap.size ≤ g) (fun g _ hg => by first | exact hg | exact Nat.le_trans hcur.size hg); have hcur : Below w.heap.size w.drew wA := by first | exact hbA | exact Below.trans hcur (hbA.mono hcur.size))
    | (go_at_call 57; (with_reducible show Calls _ _ #[_, Value.int IntKind.i64 4] _ _); refine (low_any _ (rec : Int) ⟨by omega, by omega⟩ 4 (by omega)).mono ?_; rintro e wB ⟨uB, rfl, hoB, hbB⟩; obtain ⟨AB, cB, rfl, -, -⟩ := hoB.shape; have hcB := hbB.cell (p := ⟨q, 20, none⟩) (by first | exact hsz | exact Nat.lt_of_lt_of_le hsz hcur.size);
        replace hoB := hoB.more (T' := fun g => w.heap.size ≤ g) (fun g _ hg => by first | exact hg | exact Nat.le_trans hcur.size hg); have hcur : Below w.heap.size w.drew wB := by first | exact hbB | exact Below.trans hcur (hbB.mono hcur.size))
    | (refine step_append_any _ (by rfl) _ _ 56 (by rfl) 5 i0 _ 1 1 Tryz.underlying56 hi hz0 hz1 hz2 rfl (by omega) (.slice AA 2 cA) 2 (bytes (lowF nb 2)) (by rfl) (by first | exact hoA | exact hoA.fresh hbB) _ 4 cB (bytes (lowF rec 4)) (by rfl) (by first | exact hoB.reads | exact (hoB.fresh hbA).reads) (bytes_one _) (by unfold maxLen; omega) (by omega) ?_; intro v1 w3 happ; obtain ⟨o1, bb1⟩ := appBelow happ hcur.size (fun g hg => hoA.2 g hg); have hcC := bb1.cell (p := ⟨q, 20, none⟩) hsz)
    | (refine step_append_any _ (by rfl) _ _ 56 (by rfl) 5 i0 _ 1 1 Tryz.underlying56 hi hz0 hz1 hz2 rfl (by omega) v1 (2 + 4) _ (by rfl) o1 _ nb cb (bytes b) (by rfl) (hbo.drew.below (hcur.trans bb1) (fun _ h => h)) (bytes_one _) (by unfold maxLen; omega) (by omega) ?_; intro v2 w4 happ2; obtain ⟨o2, bb2⟩ := appBelow happ2 (Nat.le_trans hcur.size bb1.size) (fun g hg => o1.2 g hg); have hcD := bb2.cell (p := ⟨q, 20, none⟩) hsz)))
  all_goals exact hQ _ _ _ _ _ _ _ _ _ _ _ _ _ (by rw [bytes_append, bytes_append]; exact o2) ((hcur.trans bb1).trans bb2).drewed
end Go.Proofs.YtedkfehdfmimoaaGreat

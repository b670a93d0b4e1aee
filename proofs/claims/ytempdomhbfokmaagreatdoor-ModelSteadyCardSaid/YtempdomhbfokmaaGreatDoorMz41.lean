/- nat.Gcd. Rational numbers by a sign, a numerator and a denominator, in plain words. -/
import Derived.Test.YtempdomhbfokmaaGreatDoorMz40
import Derived.Deep.LoopGhost
import Derived.Test.YtempdomhbfokmaaGreatDoorMz37
namespace Go.Proofs.YtempdomhbfokmaaGreatDoor
open Go.RowKit

theorem ofN_two (n : Nat) (h : (ofN n).length ≤ 2) : n < 1000000000000000000 := by
  have h1 := lt_pow_ofN n
  have h2 : BB ^ (ofN n).length ≤ BB ^ 2 := Nat.pow_le_pow_right BB_pos h
  have h3 : BB ^ 2 = 1000000000000000000 := by decide
  omega
set_option maxRecDepth 100000 in
set_option maxHeartbeats 8000000 in
theorem gcd_any (w : World) (T T' : Nat → Prop) (u v : Value) (a b : Nat) (hu : NatR w T u a) (hv : NatR w T' v b) (hla : (ofN a).length ≤ 100000) (hlb : (ofN b).length ≤ 100000) :
    Calls Tryz.prog 56 #[u, v] w fun e w' => ∃ r, e = .returned r ∧ NatR w' (fun g => w.heap.size ≤ g) r (Nat.gcd a b) ∧ Below w.heap.size w w' := by
  have HU := Lib.hid (hu.more (T' := fun _ => True) (fun _ _ _ => trivial))
  have HV := Lib.hid (hv.more (T' := fun _ => True) (fun _ _ _ => trivial))
  have HLA := Lib.hid hla
  have HLB := Lib.hid hlb
  obtain ⟨A0, c0, rfl, -⟩ := hu
  obtain ⟨B0, d0, rfl, -⟩ := hv
  clear hla hlb
  go_enter Tryz.func56, Tryz.ntmps56
  go_wp2_with fail
  go_loopg [0, 1] (b + 1) (fun f u v wr => ∃ (x y : Nat) (A : Option Addr) (c : Nat) (B : Option Addr) (d : Nat), u = .slice A (ofN x).length c ∧ v = .slice B (ofN y).length d ∧ y < f ∧ Hid (NatR wr (fun _ => True) (.slice A (ofN x).length c) x) ∧ Hid (NatR wr (fun _ => True) (.slice B (ofN y).length d) y) ∧ Hid (Nat.gcd x y = Nat.gcd a b) ∧ Hid ((ofN x).length ≤ 100000 ∧ (ofN y).length ≤ 100000) ∧ Hid (Below w.heap.size w wr))
  case atStart => exact ⟨a, b, A0, c0, B0, d0, rfl, rfl, by omega, HU, HV, Lib.hid rfl, Lib.hid ⟨HLA.out, HLB.out⟩, Lib.hid (Below.refl _ _)⟩
  obtain ⟨x, y, A, c, B, d, rfl, rfl, hyf, HX, HY, HG, HL, HB⟩ := hrel
  have HZY := Lib.hid (ofN_length_zero y)
  have HX2 := Lib.hid (ofN_two x)
  have HY2 := Lib.hid (ofN_two y)
  have HD := Lib.hid (fun hy => div_any wr _ _ _ _ x y HX.out HY.out HL.out.1 hy)
  have HCL := Lib.hid (cloneN_any wr _ _ x HX.out (by have := HL.out.1; omega))
  have HW1 := Lib.hid (fun h => wide_any wr _ _ x HX.out h)
  have HW2 : Hid (∀ W, Below wr.heap.size wr W → (ofN y).length ≤ 2 → Calls Tryz.prog 88 #[.slice B (ofN y).length d] W fun e W' => e = .returned (.int .u64 (y : Int)) ∧ Below W.heap.size W W') := Lib.hid fun W hW h => wide_any W _ _ y (HY.out.fresh hW) h
  have HLY := Lib.hid (fun q => ofN_length_mono (x % y) y q)
  obtain ⟨lx, hlx⟩ : ∃ n, n = (ofN x).length := ⟨_, rfl⟩
  obtain ⟨ly, hly⟩ : ∃ n, n = (ofN y).length := ⟨_, rfl⟩
  rw [← hlx] at HX HX2 HD HCL HW1 HL ⊢
  rw [← hly] at HY HY2 HD HW2 HL HLY HZY ⊢
  have HLX' := Lib.hid hlx
  have HLY' := Lib.hid hly
  have hlb := HL.out
  obtain ⟨hlb1, hlb2⟩ := hlb
  clear hlx hly
  by_cases hbig : 2 < lx ∨ 2 < ly
  · by_cases hy0 : ly = 0
    · subst hy0
      have hyz := HZY.out.1 rfl
      have b1 : decide ((2 : Int) < (lx : Int)) = true := by simp; omega
      have b2 : (2 : Int) < lx := by omega
      have HYZ := Lib.hid hyz
      clear hbig hyz hyf
      go_wp2_with fail
      refine HCL.out.mono ?_
      rintro e w2 ⟨r, rfl, hr, hb⟩
      have HR := Lib.hid hr
      have HB2 := Lib.hid hb
      clear hr hb
      go_wp2_with fail
      go_ret
      refine ⟨r, rfl, ?_, HB.out.trans (HB2.out.mono HB.out.size)⟩
      have hg := HG.out
      rw [HYZ.out, Nat.gcd_zero_right] at hg
      rw [← hg]
      exact HR.out.more (fun g _ h => Nat.le_trans HB.out.size h)
    · have hyp : 0 < y := by
        rcases Nat.eq_zero_or_pos y with h | h
        · exact absurd (HZY.out.2 h) hy0
        · exact h
      have b3 : ((ly : Int) == 0) = false := by simp; omega
      have HDD := Lib.hid (HD.out hyp)
      have HYP := Lib.hid hyp
      by_cases hx2 : 2 < lx
      · have b2 : (2 : Int) < lx := by omega
        have b1 : decide ((2 : Int) < (lx : Int)) = true := by simp; omega
        clear hbig hy0 hyp hx2
        go_wp2_with fail
        refine HDD.out.mono ?_
        rintro e w2 ⟨q, r, rfl, -, hr, hb⟩
        have HB2 := Lib.hid hb
        have hr2 : NatR w2 (fun _ => True) r (x % y) := hr.more (fun _ _ _ => trivial)
        obtain ⟨A', c', rfl, -⟩ := hr
        have HR := Lib.hid hr2
        clear hr2 hb
        go_wp2_with fail
        have hlt : x % y < y := Nat.mod_lt _ HYP.out
        go_roundg y
        case measure => omega
        case rel => exact ⟨y, x % y, B, d, A', c', by rw [← HLY'.out], rfl, hlt, by rw [← HLY'.out]; exact Lib.hid (HY.out.fresh HB2.out), HR, (show Nat.gcd y (x % y) = Nat.gcd a b by rw [Nat.gcd_comm, ← Nat.gcd_rec, Nat.gcd_comm]; exact HG.out), Lib.hid ⟨by rw [← HLY'.out]; exact hlb2, Nat.le_trans (HLY.out (Nat.le_of_lt hlt)) hlb2⟩, Lib.hid (HB.out.trans (HB2.out.mono HB.out.size))⟩
      · have b2 : ¬ (2 : Int) < lx := by omega
        have b1 : decide ((2 : Int) < (lx : Int)) = false := by simp; omega
        have b4 : (2 : Int) < ly := by omega
        have b5 : decide ((2 : Int) < (ly : Int)) = true := by simp; omega
        clear hbig hy0 hyp hx2
        go_wp2_with fail
        refine HDD.out.mono ?_
        rintro e w2 ⟨q, r, rfl, -, hr, hb⟩
        have HB2 := Lib.hid hb
        have hr2 : NatR w2 (fun _ => True) r (x % y) := hr.more (fun _ _ _ => trivial)
        obtain ⟨A', c', rfl, -⟩ := hr
        have HR := Lib.hid hr2
        clear hr2 hb
        go_wp2_with fail
        have hlt : x % y < y := Nat.mod_lt _ HYP.out
        go_roundg y
        case measure => omega
        case rel => exact ⟨y, x % y, B, d, A', c', by rw [← HLY'.out], rfl, hlt, by rw [← HLY'.out]; exact Lib.hid (HY.out.fresh HB2.out), HR, (show Nat.gcd y (x % y) = Nat.gcd a b by rw [Nat.gcd_comm, ← Nat.gcd_rec, Nat.gcd_comm]; exact HG.out), Lib.hid ⟨by rw [← HLY'.out]; exact hlb2, Nat.le_trans (HLY.out (Nat.le_of_lt hlt)) hlb2⟩, Lib.hid (HB.out.trans (HB2.out.mono HB.out.size))⟩
  · have b2 : ¬ (2 : Int) < lx := by omega
    have b1 : decide ((2 : Int) < (lx : Int)) = false := by simp; omega
    have b4 : ¬ (2 : Int) < ly := by omega
    have b5 : decide ((2 : Int) < (ly : Int)) = false := by simp; omega
    have HWA := Lib.hid (HW1.out (by omega))
    have HXB := Lib.hid (HX2.out (by omega))
    have HYB := Lib.hid (HY2.out (by omega))
    have HWB := Lib.hid (fun W h => HW2.out W h (by omega))
    clear hbig hlb1 hlb2 hyf
    go_wp2_with fail
    refine HWA.out.mono ?_
    rintro e w1 ⟨rfl, hb1⟩
    have HWC := Lib.hid (HWB.out w1 hb1)
    have HB1 := Lib.hid (HB.out.trans (hb1.mono HB.out.size))
    clear hb1
    go_wp2_with fail
    refine HWC.out.mono ?_
    rintro e w2 ⟨rfl, hb2⟩
    have HB2 := Lib.hid (HB1.out.trans (hb2.mono HB1.out.size))
    clear hb2
    go_wp2_with fail
    obtain ⟨wo, rfl⟩ : ∃ wo : World, wo = wr := ⟨_, rfl⟩
    go_loopw [7, 8] (fun xv yv wr => ∃ p q k : Nat, xv = .int .u64 p ∧ yv = .int .u64 q ∧ wr = w2.drewN k ∧ Hid (Nat.gcd p q = Nat.gcd x y) ∧ Hid (p < 1000000000000000000) ∧ Hid (q < 1000000000000000000)) (fun _ yv _ => (intOf yv).toNat)
    case atStart => exact ⟨x, y, 0, rfl, rfl, rfl, Lib.hid rfl, HXB, HYB⟩
    obtain ⟨p, q, k, rfl, rfl, rfl, HG2, HP, HQ⟩ := hrel
    by_cases hq : q = 0
    · subst hq
      have hgp : p = Nat.gcd a b := by rw [← HG.out, ← HG2.out, Nat.gcd_zero_right]
      have HOF := Lib.hid (of_any (w2.drewN k) p (by have := HP.out; omega))
      have HGP := Lib.hid hgp
      clear hgp
      go_wp2_with fail
      refine HOF.out.mono ?_
      rintro e w3 ⟨r, rfl, hr, hb3⟩
      have HR := Lib.hid hr
      have HB3 := Lib.hid hb3
      clear hr hb3
      go_wp2_with fail
      go_ret
      exact ⟨r, rfl, by rw [← HGP.out]; exact HR.out.more (fun g _ h => Nat.le_trans HB2.out.size h), (((Keeps.of_below HB2.out (fun _ => False)).drewN k).fresh HB3.out).to_below⟩
    · have hq1 : ¬ (q : Int) = 0 := by omega
      have hqq : ((q : Int) != 0) = true := by simpa using hq
      have htm : (p : Int).tmod (q : Int) = ((p % q : Nat) : Int) := by rw [Int.tmod_eq_emod_of_nonneg (by omega)]; rfl
      go_wp2_with fail
      go_quiet (fail)
      go_wp2_with fail
      have hlt : p % q < q := Nat.mod_lt _ (by omega)
      go_roundw
      case rel => exact ⟨q, p % q, k + nq, rfl, by rw [Int.natCast_emod], World.drewN_drewN _ _ _, (show Nat.gcd q (p % q) = Nat.gcd x y by rw [Nat.gcd_comm, ← Nat.gcd_rec, Nat.gcd_comm]; exact HG2.out), HQ, (show p % q < 1000000000000000000 by have h := HQ.out; exact Nat.lt_trans hlt h)⟩
      case measure => simp only [intOf]; rw [← Int.natCast_emod]; omega
end Go.Proofs.YtempdomhbfokmaaGreatDoor

namespace Go.Proofs.YtempdomhbfokmaaGreatDoor

def sgn (neg : Bool) (n : Nat) : Int := if neg then -(n : Int) else n
def ngN (q : Rat) : Bool := decide (q.num < 0)
theorem sgn_num (q : Rat) : q.num = sgn (ngN q) q.num.natAbs := by
  unfold sgn ngN
  by_cases h : q.num < 0
  · simp only [h, decide_true, if_true]; omega
  · simp only [h, decide_false, Bool.false_eq_true, if_false]; omega
theorem sgn_abs (neg : Bool) (n : Nat) : (sgn neg n).natAbs = n := by cases neg <;> simp [sgn]
theorem mk_parts (neg : Bool) (n d : Nat) (hd : 0 < d) : (mkRat (sgn neg n) d).num.natAbs = n / Nat.gcd n d ∧ (mkRat (sgn neg n) d).den = d / Nat.gcd n d ∧ (n ≠ 0 → ngN (mkRat (sgn neg n) d) = neg) := by
  have e : mkRat (sgn neg n) d = Rat.normalize (sgn neg n) d (by omega) := by rw [Rat.mkRat_def, dif_neg (by omega)]
  rw [e, Rat.normalize_eq]
  have hg : 0 < Nat.gcd n d := Nat.gcd_pos_of_pos_right _ hd
  have hdv : Nat.gcd n d ∣ n := Nat.gcd_dvd_left _ _
  have e2 : sgn neg n / ((sgn neg n).natAbs.gcd d : Int) = sgn neg (n / Nat.gcd n d) := by
    rw [sgn_abs]
    cases neg
    · simp [sgn]
    · simp only [sgn, if_true]
      rw [Int.neg_ediv_of_dvd (by exact_mod_cast hdv)]
      simp
  refine ⟨?_, ?_, ?_⟩
  · show (sgn neg n / ((sgn neg n).natAbs.gcd d : Int)).natAbs = _
    rw [e2, sgn_abs]
  · show d / (sgn neg n).natAbs.gcd d = _
    rw [sgn_abs]
  · intro hn
    unfold ngN
    show decide (sgn neg n / ((sgn neg n).natAbs.gcd d : Int) < 0) = neg
    rw [e2]
    have hp : 0 < n / Nat.gcd n d := Nat.div_pos (Nat.le_of_dvd (by omega) hdv) hg
    cases neg
    · simp [sgn]; exact Int.ediv_nonneg (by omega) (by omega)
    · simp only [sgn, if_true, decide_eq_true_eq]; omega
theorem mk_zero (neg : Bool) (d : Nat) : mkRat (sgn neg 0) d = 0 := by
  have : sgn neg 0 = 0 := by cases neg <;> rfl
  rw [this, Rat.zero_mkRat]
theorem mk_le (neg : Bool) (n d : Nat) (hd : 0 < d) : (mkRat (sgn neg n) d).num.natAbs ≤ n ∧ (mkRat (sgn neg n) d).den ≤ d := by
  obtain ⟨h1, h2, -⟩ := mk_parts neg n d hd
  rw [h1, h2]
  exact ⟨Nat.div_le_self _ _, Nat.div_le_self _ _⟩
section
variable (a b : Rat)
theorem sgn_mul_nat (neg : Bool) (n d : Nat) : sgn neg n * (d : Int) = sgn neg (n * d) := by
  cases neg
  · simp [sgn]
  · simp [sgn, Int.neg_mul]
theorem sgn_same (neg : Bool) (n m : Nat) : sgn neg n + sgn neg m = sgn neg (n + m) := by
  cases neg
  · simp [sgn]
  · simp only [sgn, if_true]; omega
theorem sgn_diff (p q : Bool) (h : p ≠ q) (n m : Nat) : sgn p n + sgn q m = if m ≤ n then sgn p (n - m) else sgn q (m - n) := by
  cases p <;> cases q <;> simp only [sgn, if_true, if_false, Bool.false_eq_true] at * <;> first | exact absurd rfl h | (split <;> omega)
theorem rat_add_same (h : ngN a = ngN b) : a + b = mkRat (sgn (ngN a) (a.num.natAbs * b.den + b.num.natAbs * a.den)) (a.den * b.den) := by
  rw [Rat.add_def', sgn_num a, sgn_num b, sgn_abs, sgn_abs, sgn_mul_nat, sgn_mul_nat, h, sgn_same]
theorem rat_add_diff (h : ngN a ≠ ngN b) : a + b = mkRat (if b.num.natAbs * a.den ≤ a.num.natAbs * b.den then sgn (ngN a) (a.num.natAbs * b.den - b.num.natAbs * a.den) else sgn (ngN b) (b.num.natAbs * a.den - a.num.natAbs * b.den)) (a.den * b.den) := by
  rw [Rat.add_def', ← sgn_diff _ _ h, ← sgn_mul_nat, ← sgn_mul_nat, ← sgn_num, ← sgn_num]
theorem sgn_mul (p q : Bool) (n m : Nat) : sgn p n * sgn q m = sgn (p != q) (n * m) := by
  cases p <;> cases q <;> simp [sgn, Int.neg_mul, Int.mul_neg]
theorem rat_mul : a * b = mkRat (sgn (ngN a != ngN b) (a.num.natAbs * b.num.natAbs)) (a.den * b.den) := by
  rw [Rat.mul_def', ← sgn_mul, ← sgn_num, ← sgn_num]
theorem rat_div (hb : b ≠ 0) : a / b = mkRat (sgn (ngN a != ngN b) (a.num.natAbs * b.den)) (a.den * b.num.natAbs) := by
  have hn : b.num ≠ 0 := fun h => hb (Rat.num_eq_zero.1 h)
  have hd : a.den * b.num.natAbs ≠ 0 := Nat.mul_ne_zero a.den_nz (by omega)
  have e1 : sgn (ngN a != ngN b) (a.num.natAbs * b.den) * b.num = a.num * (b.den * b.num.natAbs : Nat) := by
    rw [← sgn_mul_nat]
    have e2 : sgn (ngN a != ngN b) a.num.natAbs = sgn (ngN a) a.num.natAbs * sgn (ngN b) 1 := by rw [sgn_mul, Nat.mul_one]
    rw [e2, ← sgn_num a]
    have e3 : sgn (ngN b) 1 * b.num = (b.num.natAbs : Int) := by
      have h := sgn_mul (ngN b) (ngN b) 1 b.num.natAbs
      rw [← sgn_num b] at h
      rw [h]
      simp [sgn]
    rw [Int.natCast_mul, Int.mul_assoc, Int.mul_assoc]
    congr 1
    rw [Int.mul_comm (b.den : Int) b.num, ← Int.mul_assoc, e3, Int.mul_comm]
  have key : mkRat (sgn (ngN a != ngN b) (a.num.natAbs * b.den)) (a.den * b.num.natAbs) * b = a := by
    calc mkRat (sgn (ngN a != ngN b) (a.num.natAbs * b.den)) (a.den * b.num.natAbs) * b
        = mkRat (sgn (ngN a != ngN b) (a.num.natAbs * b.den)) (a.den * b.num.natAbs) * mkRat b.num b.den := by rw [Rat.mkRat_self b]
      _ = mkRat (sgn (ngN a != ngN b) (a.num.natAbs * b.den) * b.num) (a.den * b.num.natAbs * b.den) := Rat.mkRat_mul_mkRat _ _ _ _
      _ = mkRat a.num a.den := by
        rw [Rat.mkRat_eq_iff (Nat.mul_ne_zero hd b.den_nz) a.den_nz, e1]
        simp only [Int.natCast_mul]
        rw [Int.mul_assoc]
        congr 1
        simp only [Int.mul_comm, Int.mul_left_comm]
      _ = a := Rat.mkRat_self a
  have h := congrArg (· / b) key
  simp only [Rat.mul_div_cancel hb] at h
  exact h.symm
theorem rat_neg : (-a).num.natAbs = a.num.natAbs ∧ (-a).den = a.den ∧ ngN (-a) = (!ngN a && !decide (a.num.natAbs = 0)) := by
  refine ⟨by rw [Rat.neg_num]; omega, by rfl, ?_⟩
  unfold ngN
  rw [Rat.neg_num]
  by_cases h : a.num < 0
  · simp [h]; omega
  · by_cases h2 : a.num = 0
    · simp [h2]
    · simp [h, h2]; omega
end
end Go.Proofs.YtempdomhbfokmaaGreatDoor

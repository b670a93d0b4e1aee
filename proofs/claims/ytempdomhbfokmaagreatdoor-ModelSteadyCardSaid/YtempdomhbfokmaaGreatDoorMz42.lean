/- frac: one, Reduced, Int. frac: Int, Mul, Div. frac.Add. frac: Neg, Sub. -/
import Derived.Test.YtempdomhbfokmaaGreatDoorMz41
import Derived.Test.YtempdomhbfokmaaGreatDoorMz24
import Derived.Deep.RegionHeld3
import Derived.Deep.DeepCutAuto
import Derived.Deep.CutBlock
namespace Go.Proofs.YtempdomhbfokmaaGreatDoor
open Go.RowKit

theorem Dig.both {w : World} {T : Nat → Prop} {v : Value} {l : List Nat} (h : Dig w T v l) : Dig w (fun g => T g ∧ g < w.heap.size) v l := by
  obtain ⟨A, c, h1, h2, h3⟩ := h
  refine ⟨A, c, h1, ⟨h2.1, fun hn => ?_⟩, h3⟩
  obtain ⟨ad, e, hb, ht, hc⟩ := h2.2 hn
  exact ⟨ad, e, hb, ⟨ht, hb⟩, hc⟩
section
variable {w w' : World} {T T' S : Nat → Prop} {v : Value} {n : Nat}
theorem NatR.len (h : NatR w T v n) : ∃ A c, v = .slice A (ofN n).length c := Dig.len h
theorem NatR.fresh (h : NatR w T v n) (hk : Below w.heap.size w w') : NatR w' T v n := Dig.fresh h hk
theorem NatR.more (h : NatR w T v n) (hT : ∀ b, b < w.heap.size → T b → T' b) : NatR w T' v n := Dig.more h hT
theorem NatR.keeps (h : NatR w T v n) (hk : Keeps S w w') (hs : ∀ i, T i → ¬ S i) : NatR w' T v n := Dig.keeps h hk hs
theorem NatR.both (h : NatR w T v n) : NatR w (fun g => T g ∧ g < w.heap.size) v n := Dig.both h
end
/-- The value v is the fraction q. -/
def FR (w : World) (T : Nat → Prop) (v : Value) (q : Rat) : Prop := ∃ nv dv, v = .agg #[.bool (ngN q), nv, dv] ∧ NatR w T nv q.num.natAbs ∧ NatR w T dv q.den
def Sz (q : Rat) (k : Nat) : Prop := (ofN q.num.natAbs).length ≤ k ∧ (ofN q.den).length ≤ k
section
variable {w w' : World} {T T' S : Nat → Prop} {v : Value} {q : Rat}
theorem FR.more (h : FR w T v q) (hT : ∀ b, b < w.heap.size → T b → T' b) : FR w T' v q := by
  obtain ⟨n, d, e, h1, h2⟩ := h
  exact ⟨n, d, e, h1.more hT, h2.more hT⟩
theorem FR.fresh (h : FR w T v q) (hk : Below w.heap.size w w') : FR w' T v q := by
  obtain ⟨n, d, e, h1, h2⟩ := h
  exact ⟨n, d, e, h1.fresh hk, h2.fresh hk⟩
theorem FR.keeps (h : FR w T v q) (hk : Keeps S w w') (hs : ∀ i, T i → ¬ S i) : FR w' T v q := by
  obtain ⟨n, d, e, h1, h2⟩ := h
  exact ⟨n, d, e, h1.keeps hk hs, h2.keeps hk hs⟩
theorem FR.both (h : FR w T v q) : FR w (fun g => T g ∧ g < w.heap.size) v q := by
  obtain ⟨n, d, e, h1, h2⟩ := h
  exact ⟨n, d, e, h1.both, h2.both⟩
theorem FR.drewN (h : FR w T v q) (n : Nat) : FR (w.drewN n) T v q := h
theorem FR.shape (h : FR w T v q) : ∃ A1 n1 c1 A2 n2 c2, v = .agg #[.bool (ngN q), .slice A1 n1 c1, .slice A2 n2 c2] ∧ NatR w T (.slice A1 n1 c1) q.num.natAbs ∧ NatR w T (.slice A2 n2 c2) q.den := by
  obtain ⟨n, d, e, h1, h2⟩ := h
  obtain ⟨A1, c1, rfl⟩ := h1.len
  obtain ⟨A2, c2, rfl⟩ := h2.len
  exact ⟨A1, _, c1, A2, _, c2, e, h1, h2⟩
end
theorem keeps3' (w : World) (g : Nat) (a0 a1 a2 : Value) : Keeps (· = g) w (((w.setCell ⟨g, 0, none⟩ a0).setCell ⟨g, 1, none⟩ a1).setCell ⟨g, 2, none⟩ a2) :=
  Keeps.setCell (p := ⟨g, 2, none⟩) (Keeps.setCell (p := ⟨g, 1, none⟩) (Keeps.setCell (p := ⟨g, 0, none⟩) (Keeps.refl (· = g) w) (fun _ => rfl) _) (fun _ => rfl) _) (fun _ => rfl) _
theorem blk3' (w : World) (g : Nat) (t : TypeId) (b0 b1 b2 a0 a1 a2 : Value) (h : Blk w g t #[b0, b1, b2]) : Blk (((w.setCell ⟨g, 0, none⟩ a0).setCell ⟨g, 1, none⟩ a1).setCell ⟨g, 2, none⟩ a2) g t #[a0, a1, a2] := ((h.set_ 0 a0).set_ 1 a1).set_ 2 a2
theorem frac_size : (Tryz.prog.info? 81).map (·.size) = some 3 := by kernel_rfl

set_option maxRecDepth 100000 in
theorem one_n (w : World) : Calls Tryz.prog 76 #[] w fun e w' => ∃ v, e = .returned v ∧ NatR w' (fun g => w.heap.size ≤ g) v 1 ∧ Below w.heap.size w w' := by
  go_enter Tryz.func76, Tryz.ntmps76
  go_wp2_with fail
  refine (of_any w 1 (by omega)).mono ?_
  rintro e w1 ⟨v, rfl, hv, hb⟩
  have HV := Lib.hid hv
  have HB := Lib.hid hb
  clear hv hb
  go_wp2_with fail
  go_ret
  exact ⟨v, rfl, HV.out, HB.out⟩

set_option maxRecDepth 100000 in
set_option maxHeartbeats 8000000 in
theorem reduced_any (w : World) (T : Nat → Prop) (neg : Bool) (u v : Value) (n d : Nat) (hu : NatR w T u n) (hv : NatR w T v d) (hd : 0 < d) (hn5 : (ofN n).length ≤ 100000) (hd5 : (ofN d).length ≤ 100000) :
    Calls Tryz.prog 45 #[.bool neg, u, v] w fun e w' => ∃ r, e = .returned r ∧ FR w' (fun g => T g ∨ w.heap.size ≤ g) r (mkRat (sgn neg n) d) ∧ Below w.heap.size w w' := by
  have HU := Lib.hid (hu.both)
  have HV := Lib.hid (hv.both)
  obtain ⟨A1, c1, rfl⟩ := hu.len
  obtain ⟨A2, c2, rfl⟩ := hv.len
  have HQ := Lib.hid (mk_parts neg n d hd)
  have HZQ := Lib.hid (mk_zero neg d)
  have HN5 := Lib.hid hn5
  have HD5 := Lib.hid hd5
  have HD := Lib.hid hd
  obtain ⟨ln, hln⟩ : ∃ ln, ln = (ofN n).length := ⟨_, rfl⟩
  obtain ⟨ld, hld⟩ : ∃ ld, ld = (ofN d).length := ⟨_, rfl⟩
  rw [← hln] at HU ⊢
  rw [← hld] at HV ⊢
  clear hu hv hd hn5 hd5 hln hld
  have kr := Blk.new w 81 #[.bool false, .slice none 0 0, .slice none 0 0]
  have hb0 := (Below.refl w.heap.size w).alloc (Nat.le_refl _) (.cells #[.bool false, .slice none 0 0, .slice none 0 0] 81)
  have hz0 : (w.alloc (.cells #[.bool false, .slice none 0 0, .slice none 0 0] 81)).heap.size = w.heap.size + 1 := by simp
  have KR := Lib.hid kr
  have HB0 := Lib.hid hb0
  clear kr hb0
  go_enter Tryz.func45, Tryz.ntmps45
  go_wp2_with fail
  generalize w.alloc (.cells #[.bool false, .slice none 0 0, .slice none 0 0] 81) = W at *
  have HZ0 := Lib.hid hz0
  have HU1 := Lib.hid ((show NatR w _ _ n from HU.out).fresh HB0.out)
  have HV1 := Lib.hid ((show NatR w _ _ d from HV.out).fresh HB0.out)
  clear hz0
  refine (zero_any _ _ _ n HU1.out).mono ?_
  rintro e w1 ⟨rfl, hw1⟩
  subst hw1
  by_cases hn : n = 0
  · have hdn : decide (n = 0) = true := by simpa using hn
    have HN := Lib.hid hn
    clear hn
    go_wp2_with fail
    refine (one_n _).mono ?_
    rintro e w2 ⟨d1, rfl, hd1, hb2⟩
    obtain ⟨A3, c3, rfl⟩ := hd1.len
    have KR2 := Lib.hid (KR.out.below hb2 KR.out.lt)
    have HD1 := Lib.hid hd1
    have HB2 := Lib.hid (HB0.out.trans (hb2.mono HB0.out.size))
    generalize (ofN 1).length = l1 at *
    clear hd1 hb2
    have e0 : w2.cell? ⟨w.heap.size, 0, none⟩ = some (.bool false) := KR2.out.cell 0
    have f0 := KR2.out.frozen 0
    have e1 : w2.cell? ⟨w.heap.size, 1, none⟩ = some (.slice none 0 0) := KR2.out.cell 1
    have f1 := KR2.out.frozen 1
    have e2 : w2.cell? ⟨w.heap.size, 2, none⟩ = some (.slice none 0 0) := KR2.out.cell 2
    have f2 := KR2.out.frozen 2
    go_wp2_with fail
    refine bodyPost_ret (v := .agg #[.bool false, .slice none 0 0, .slice A3 l1 c3]) ?_ ?_ ?_
    · exact res_cell (p := 6) (ty := 81) (fn := Tryz.f45) rfl _ _ w.heap.size 81 #[.bool false, .slice none 0 0, .slice A3 l1 c3] _ rfl (blk3' w2 w.heap.size 81 _ _ _ _ _ _ KR2.out) Tryz.underlying81 rfl frac_size
    · rfl
    refine ⟨_, rfl, ?_, ((Keeps.of_below HB2.out (fun _ => False)).trans (keeps3' w2 w.heap.size _ _ _) (fun i hi h => by omega)).to_below⟩
    rw [HN.out, mk_zero]
    exact ⟨_, _, rfl, NatR.zero _ _, ((show NatR w2 _ _ 1 from HD1.out).keeps (keeps3' w2 w.heap.size _ _ _) (fun i hi e => by have := HZ0.out; omega)).more (fun g _ h => Or.inr (by have := HZ0.out; omega))⟩
  have hdn : decide (n = 0) = false := by simpa using hn
  have HN := Lib.hid hn
  clear hn
  go_wp2_with fail
  refine (one_any _ _ _ d HV1.out).mono ?_
  rintro e w' ⟨rfl, rfl⟩
  by_cases hd1 : d = 1
  · have hdd : decide (d = 1) = true := by simpa using hd1
    have HD1 := Lib.hid hd1
    have e0 : w'.cell? ⟨w.heap.size, 0, none⟩ = some (.bool false) := KR.out.cell 0
    have f0 := KR.out.frozen 0
    have e1 : w'.cell? ⟨w.heap.size, 1, none⟩ = some (.slice none 0 0) := KR.out.cell 1
    have f1 := KR.out.frozen 1
    have e2 : w'.cell? ⟨w.heap.size, 2, none⟩ = some (.slice none 0 0) := KR.out.cell 2
    have f2 := KR.out.frozen 2
    clear hd1
    go_wp2_with fail
    refine bodyPost_ret (v := .agg #[.bool neg, .slice A1 ln c1, .slice A2 ld c2]) ?_ ?_ ?_
    · exact res_cell (p := 6) (ty := 81) (fn := Tryz.f45) rfl _ _ w.heap.size 81 #[.bool neg, .slice A1 ln c1, .slice A2 ld c2] _ rfl (blk3' w' w.heap.size 81 _ _ _ _ _ _ KR.out) Tryz.underlying81 rfl frac_size
    · rfl
    refine ⟨_, rfl, ?_, ((Keeps.of_below HB0.out (fun _ => False)).trans (keeps3' w' w.heap.size _ _ _) (fun i hi h => by omega)).to_below⟩
    obtain ⟨h1, h2, h3⟩ := HQ.out
    rw [HD1.out, Nat.gcd_one_right, Nat.div_one] at h1 h2
    refine ⟨.slice A1 ln c1, .slice A2 ld c2, by rw [h3 HN.out], ?_, ?_⟩
    · rw [HD1.out, h1]
      exact ((show NatR w' _ _ n from HU1.out).keeps (keeps3' w' w.heap.size _ _ _) (fun i hi e => by omega)).more (fun g _ h => Or.inl h.1)
    · rw [HD1.out, h2]
      have := (((show NatR w' _ _ d from HV1.out).keeps (keeps3' w' w.heap.size (.bool neg) (.slice A1 ln c1) (.slice A2 ld c2)) (fun i hi e => by omega)).more (T' := fun g => T g ∨ w.heap.size ≤ g) (fun g _ h => Or.inl h.1))
      rwa [HD1.out] at this
  have hdd : decide (d = 1) = false := by simpa using hd1
  have HD1 := Lib.hid hd1
  have HGC := Lib.hid (gcd_any w' _ _ _ _ n d HU1.out HV1.out HN5.out HD5.out)
  clear hd1
  go_wp2_with fail
  refine HGC.out.mono ?_
  rintro e w2 ⟨g, rfl, hg, hb2⟩
  have HON := Lib.hid (one_any w2 _ g _ hg)
  have HGG := Lib.hid hg
  have KR2 := Lib.hid (KR.out.below hb2 KR.out.lt)
  have HB2 := Lib.hid ((HB0.out).trans (hb2.mono HB0.out.size))
  have HB22 := Lib.hid hb2
  have HZ2 : Hid (w.heap.size + 1 ≤ w2.heap.size) := Lib.hid (by have := HZ0.out; have := hb2.size; omega)
  have HGP : Hid (0 < Nat.gcd n d) := Lib.hid (Nat.gcd_pos_of_pos_right _ HD.out)
  have HU2 := Lib.hid ((show NatR w' _ _ n from HU1.out).fresh hb2)
  have HV2 := Lib.hid ((show NatR w' _ _ d from HV1.out).fresh hb2)
  clear hg hb2 HGC
  go_wp2_with fail
  refine HON.out.mono ?_
  rintro e w3 ⟨rfl, rfl⟩
  by_cases hg1 : Nat.gcd n d = 1
  · have hdg : decide (Nat.gcd n d = 1) = true := by simpa using hg1
    have HG1 := Lib.hid hg1
    have e0 : w3.cell? ⟨w.heap.size, 0, none⟩ = some (.bool false) := KR2.out.cell 0
    have f0 := KR2.out.frozen 0
    have e1 : w3.cell? ⟨w.heap.size, 1, none⟩ = some (.slice none 0 0) := KR2.out.cell 1
    have f1 := KR2.out.frozen 1
    have e2 : w3.cell? ⟨w.heap.size, 2, none⟩ = some (.slice none 0 0) := KR2.out.cell 2
    have f2 := KR2.out.frozen 2
    clear hg1
    go_wp2_with fail
    refine bodyPost_ret (v := .agg #[.bool neg, .slice A1 ln c1, .slice A2 ld c2]) ?_ ?_ ?_
    · exact res_cell (p := 6) (ty := 81) (fn := Tryz.f45) rfl _ _ w.heap.size 81 #[.bool neg, .slice A1 ln c1, .slice A2 ld c2] _ rfl (blk3' w3 w.heap.size 81 _ _ _ _ _ _ KR2.out) Tryz.underlying81 rfl frac_size
    · rfl
    refine ⟨_, rfl, ?_, ((Keeps.of_below HB2.out (fun _ => False)).trans (keeps3' w3 w.heap.size _ _ _) (fun i hi h => by omega)).to_below⟩
    obtain ⟨h1, h2, h3⟩ := HQ.out
    rw [HG1.out, Nat.div_one] at h1 h2
    refine ⟨.slice A1 ln c1, .slice A2 ld c2, by rw [h3 HN.out], ?_, ?_⟩
    · rw [h1]
      exact ((show NatR w3 _ _ n from HU2.out).keeps (keeps3' w3 w.heap.size _ _ _) (fun i hi e => by omega)).more (fun g _ h => Or.inl h.1)
    · rw [h2]
      exact ((show NatR w3 _ _ d from HV2.out).keeps (keeps3' w3 w.heap.size _ _ _) (fun i hi e => by omega)).more (fun g _ h => Or.inl h.1)
  have hdg : decide (Nat.gcd n d = 1) = false := by simpa using hg1
  clear hg1
  have HD1' := Lib.hid (div_any w3 _ _ _ g n (Nat.gcd n d) HU2.out HGG.out HN5.out HGP.out)
  go_wp2_with fail
  refine HD1'.out.mono ?_
  rintro e w4 ⟨r1, r1', rfl, hr1, -, hb4⟩
  have HD2 := Lib.hid (div_any w4 _ _ _ g d (Nat.gcd n d) ((show NatR w3 _ _ d from HV2.out).fresh hb4) ((show NatR w3 _ _ _ from HGG.out).fresh hb4) HD5.out HGP.out)
  have HR1 := Lib.hid hr1
  have KR4 := Lib.hid (KR2.out.below hb4 KR2.out.lt)
  have HB4 := Lib.hid ((HB2.out).trans (hb4.mono HB2.out.size))
  have HZ4 : Hid (w.heap.size + 1 ≤ w4.heap.size) := Lib.hid (by have := HZ2.out; have := hb4.size; omega)
  clear hr1 hb4 HD1'
  go_wp2_with fail
  refine HD2.out.mono ?_
  rintro e w5 ⟨r2, r2', rfl, hr2, -, hb5⟩
  have KR5 := Lib.hid (KR4.out.below hb5 KR4.out.lt)
  have HB5 := Lib.hid ((HB4.out).trans (hb5.mono HB4.out.size))
  have HR15 := Lib.hid ((show NatR w4 _ _ _ from HR1.out).fresh hb5)
  have HR25 := Lib.hid hr2
  obtain ⟨A4, c4, rfl⟩ := (show NatR w4 _ _ _ from HR1.out).len
  obtain ⟨A5, c5, rfl⟩ := hr2.len
  obtain ⟨l4, hl4⟩ : ∃ ln, ln = (ofN (n / Nat.gcd n d)).length := ⟨_, rfl⟩
  obtain ⟨l5, hl5⟩ : ∃ ln, ln = (ofN (d / Nat.gcd n d)).length := ⟨_, rfl⟩
  rw [← hl4] at HR15 ⊢
  rw [← hl5] at HR25 ⊢
  have e0 : w5.cell? ⟨w.heap.size, 0, none⟩ = some (.bool false) := KR5.out.cell 0
  have f0 := KR5.out.frozen 0
  have e1 : w5.cell? ⟨w.heap.size, 1, none⟩ = some (.slice none 0 0) := KR5.out.cell 1
  have f1 := KR5.out.frozen 1
  have e2 : w5.cell? ⟨w.heap.size, 2, none⟩ = some (.slice none 0 0) := KR5.out.cell 2
  have f2 := KR5.out.frozen 2
  clear hr2 hb5 HD2 hl4 hl5
  go_wp2_with fail
  refine bodyPost_ret (v := .agg #[.bool neg, .slice A4 l4 c4, .slice A5 l5 c5]) ?_ ?_ ?_
  · exact res_cell (p := 6) (ty := 81) (fn := Tryz.f45) rfl _ _ w.heap.size 81 #[.bool neg, .slice A4 l4 c4, .slice A5 l5 c5] _ rfl (blk3' w5 w.heap.size 81 _ _ _ _ _ _ KR5.out) Tryz.underlying81 rfl frac_size
  · rfl
  refine ⟨_, rfl, ?_, ((Keeps.of_below HB5.out (fun _ => False)).trans (keeps3' w5 w.heap.size _ _ _) (fun i hi h => by omega)).to_below⟩
  obtain ⟨h1, h2, h3⟩ := HQ.out
  refine ⟨.slice A4 l4 c4, .slice A5 l5 c5, by rw [h3 HN.out], ?_, ?_⟩
  · rw [h1]
    exact ((show NatR w5 _ _ _ from HR15.out).keeps (keeps3' w5 w.heap.size _ _ _) (fun i hi e => by have := HZ2.out; omega)).more (fun g _ h => Or.inr (by have := HZ2.out; omega))
  · rw [h2]
    exact ((show NatR w5 _ _ _ from HR25.out).keeps (keeps3' w5 w.heap.size _ _ _) (fun i hi e => by have := HZ4.out; omega)).more (fun g _ h => Or.inr (by have := HZ4.out; omega))
end Go.Proofs.YtempdomhbfokmaaGreatDoor

namespace Go.Proofs.YtempdomhbfokmaaGreatDoor
open Go.RowKit

theorem far3 (w : World) (g b o : Nat) (a0 a1 a2 : Value) (hne : b ≠ g) : (((w.setCell ⟨g, 0, none⟩ a0).setCell ⟨g, 1, none⟩ a1).setCell ⟨g, 2, none⟩ a2).cell? ⟨b, o, none⟩ = w.cell? ⟨b, o, none⟩ := by
  unfold World.cell?
  rw [Below.heap_setCell _ ⟨g, 2, none⟩ _ b hne, Below.heap_setCell _ ⟨g, 1, none⟩ _ b hne, Below.heap_setCell _ ⟨g, 0, none⟩ _ b hne]
theorem below_start {W w1 : World} (h : Below W.drew.heap.size W.drew w1) : Below W.heap.size W w1 := h.drewed
theorem Sz.mul {a b : Nat} {k l : Nat} (ha : (ofN a).length ≤ k) (hb : (ofN b).length ≤ l) : (ofN (a * b)).length ≤ k + l := Nat.le_trans (ofN_mul_len a b) (Nat.add_le_add ha hb)

set_option maxRecDepth 100000 in
set_option maxHeartbeats 2000000 in
theorem fint_any (w : World) (x : Nat) (h2 : x < 9223372036854775808) :
    Calls Tryz.prog 79 #[.int .i64 x] w fun e w' => ∃ r, e = .returned r ∧ FR w' (fun g => w.heap.size < g) r ((x : Int) : Rat) ∧ Below w.heap.size w w' := by
  have hwr : IntKind.u64.wrap (x : Int) = x := IntWalk.u64_in _ ⟨by omega, by omega⟩
  have H2 := Lib.hid h2
  clear h2
  have kr := Blk.new w 81 #[.bool false, .slice none 0 0, .slice none 0 0]
  have hb0 := (Below.refl w.heap.size w).alloc (Nat.le_refl _) (.cells #[.bool false, .slice none 0 0, .slice none 0 0] 81)
  have hz0 : (w.alloc (.cells #[.bool false, .slice none 0 0, .slice none 0 0] 81)).heap.size = w.heap.size + 1 := by simp
  have KR := Lib.hid kr
  have HB0 := Lib.hid hb0
  clear kr hb0
  have hlt : ((x : Int) < 0) = False := by simp
  go_enter Tryz.func79, Tryz.ntmps79
  go_wp2_with fail
  generalize w.alloc (.cells #[.bool false, .slice none 0 0, .slice none 0 0] 81) = W at *
  have HZ0 := Lib.hid hz0
  clear hz0
  refine (of_any _ x (by have := H2.out; omega)).mono ?_
  rintro e w2 ⟨r1, rfl, hr1, hb1⟩
  have KR2 := Lib.hid (KR.out.below hb1 KR.out.lt)
  have HB2 := Lib.hid (HB0.out.trans (hb1.mono HB0.out.size))
  have HR1 := Lib.hid hr1
  have HB12 := Lib.hid hb1
  obtain ⟨A4, c4, rfl⟩ := hr1.len
  obtain ⟨l4, hl4⟩ : ∃ ln, ln = (ofN x).length := ⟨_, rfl⟩
  rw [← hl4] at HR1 ⊢
  clear hr1 hb1 hl4
  go_wp2_with fail
  refine (one_n _).mono ?_
  rintro e w5 ⟨r2, rfl, hr2, hb5⟩
  have HR15 := Lib.hid ((show NatR w2 _ _ x from HR1.out).fresh hb5)
  have KR5 := Lib.hid (KR2.out.below hb5 KR2.out.lt)
  have HB5 := Lib.hid (HB2.out.trans (hb5.mono HB2.out.size))
  have HR25 := Lib.hid hr2
  obtain ⟨A5, c5, rfl⟩ := hr2.len
  obtain ⟨l5, hl5⟩ : ∃ ln, ln = (ofN 1).length := ⟨_, rfl⟩
  rw [← hl5] at HR25 ⊢
  have HZ2 : Hid (w.heap.size + 1 ≤ w2.heap.size) := Lib.hid (by have := HZ0.out; have := HB12.out.size; omega)
  clear hr2 hb5 hl5
  have e0 : w5.cell? ⟨w.heap.size, 0, none⟩ = some (.bool false) := KR5.out.cell 0
  have f0 := KR5.out.frozen 0
  have e1 : w5.cell? ⟨w.heap.size, 1, none⟩ = some (.slice none 0 0) := KR5.out.cell 1
  have f1 := KR5.out.frozen 1
  have e2 : w5.cell? ⟨w.heap.size, 2, none⟩ = some (.slice none 0 0) := KR5.out.cell 2
  have f2 := KR5.out.frozen 2
  go_wp2_with fail
  refine bodyPost_ret (v := .agg #[.bool false, .slice A4 l4 c4, .slice A5 l5 c5]) ?_ ?_ ?_
  · exact res_cell (p := 2) (ty := 81) (fn := Tryz.f79) rfl _ _ w.heap.size 81 #[.bool false, .slice A4 l4 c4, .slice A5 l5 c5] _ rfl (blk3' w5 w.heap.size 81 _ _ _ _ _ _ KR5.out) Tryz.underlying81 rfl frac_size
  · rfl
  refine ⟨_, rfl, ?_, ((Keeps.of_below HB5.out (fun _ => False)).trans (keeps3' w5 w.heap.size _ _ _) (fun i hi h => by omega)).to_below⟩
  refine ⟨.slice A4 l4 c4, .slice A5 l5 c5, ?_, ?_, ?_⟩
  · unfold ngN; rw [Rat.num_intCast]; simp
  · rw [Rat.num_intCast, Int.natAbs_natCast]
    exact ((show NatR w5 _ _ x from HR15.out).keeps (keeps3' w5 w.heap.size _ _ _) (fun i hi e => by have := HZ0.out; omega)).more (fun g _ h => by have := HZ0.out; omega)
  · rw [Rat.den_intCast]
    exact ((show NatR w5 _ _ 1 from HR25.out).keeps (keeps3' w5 w.heap.size _ _ _) (fun i hi e => by have := HZ2.out; omega)).more (fun g _ h => by have := HZ2.out; omega)

set_option maxRecDepth 100000 in
set_option maxHeartbeats 8000000 in
theorem fmul_any (w : World) (T T' : Nat → Prop) (u v : Value) (a b : Rat) (k : Nat) (hu : FR w T u a) (hv : FR w T' v b) (hsa : Sz a k) (hsb : Sz b k) (hk : k ≤ 40000) :
    Calls Tryz.prog 23 #[u, v] w fun e w' => ∃ r, e = .returned r ∧ FR w' (fun g => w.heap.size + 2 < g) r (a * b) ∧ Below w.heap.size w w' := by
  have HRES := Lib.hid (rat_mul a b)
  obtain ⟨A1, n1, c1, A2, n2, c2, rfl, h1, h2⟩ := hu.shape
  obtain ⟨A3, n3, c3, A4, n4, c4, rfl, h3, h4⟩ := hv.shape
  have H1 := Lib.hid h1
  have H2 := Lib.hid h2
  have H3 := Lib.hid h3
  have H4 := Lib.hid h4
  have HD0 : Hid (0 < a.den * b.den) := Lib.hid (Nat.mul_pos a.den_pos b.den_pos)
  have HL1 : Hid ((ofN (a.num.natAbs * b.num.natAbs)).length ≤ 100000) := Lib.hid (Nat.le_trans (Sz.mul hsa.1 hsb.1) (by omega))
  have HL2 : Hid ((ofN (a.den * b.den)).length ≤ 100000) := Lib.hid (Nat.le_trans (Sz.mul hsa.2 hsb.2) (by omega))
  have HM1 : Hid (∀ W, Below w.heap.size w W → Calls Tryz.prog 44 #[Value.slice A1 n1 c1, Value.slice A3 n3 c3] W fun e w' => ∃ r, e = .returned r ∧ NatR w' (fun g => W.heap.size ≤ g) r (a.num.natAbs * b.num.natAbs) ∧ Below W.heap.size W w') := Lib.hid fun W hW => mul_any W _ _ _ _ _ _ ((show NatR w _ _ _ from H1.out).fresh hW) ((show NatR w _ _ _ from H3.out).fresh hW) (Nat.le_trans hsa.1 (by omega)) (Nat.le_trans hsb.1 (by omega))
  have HM2 : Hid (∀ W, Below w.heap.size w W → Calls Tryz.prog 44 #[Value.slice A2 n2 c2, Value.slice A4 n4 c4] W fun e w' => ∃ r, e = .returned r ∧ NatR w' (fun g => W.heap.size ≤ g) r (a.den * b.den) ∧ Below W.heap.size W w') := Lib.hid fun W hW => mul_any W _ _ _ _ _ _ ((show NatR w _ _ _ from H2.out).fresh hW) ((show NatR w _ _ _ from H4.out).fresh hW) (Nat.le_trans hsa.2 (by omega)) (Nat.le_trans hsb.2 (by omega))
  have HRD : Hid (∀ (W : World) (T : Nat → Prop) (x y : Value), NatR W T x (a.num.natAbs * b.num.natAbs) → NatR W T y (a.den * b.den) → Calls Tryz.prog 45 #[.bool (ngN a != ngN b), x, y] W fun e w' => ∃ r, e = .returned r ∧ FR w' (fun g => T g ∨ W.heap.size ≤ g) r (a * b) ∧ Below W.heap.size W w') := Lib.hid fun W T x y hx hy => by
    rw [HRES.out]
    exact reduced_any W T _ x y _ _ hx hy HD0.out HL1.out HL2.out
  clear hu hv hsa hsb hk h1 h2 h3 h4 HRES
  generalize a * b = q at *
  obtain ⟨p1, hp1⟩ : ∃ p, p = a.num.natAbs * b.num.natAbs := ⟨_, rfl⟩
  obtain ⟨p2, hp2⟩ : ∃ p, p = a.den * b.den := ⟨_, rfl⟩
  rw [← hp1] at HM1 HRD
  rw [← hp2] at HM2 HRD
  generalize ngN a = na at *
  generalize ngN b = nb at *
  clear hp1 hp2 HD0 HL1 HL2
  have ka := ((Blk.new w 81 #[.bool na, .slice A1 n1 c1, .slice A2 n2 c2]).alloc (.cells #[.bool nb, .slice A3 n3 c3, .slice A4 n4 c4] 81)).alloc (.cells #[.bool false, .slice none 0 0, .slice none 0 0] 81)
  have kb := (Blk.new (w.alloc (.cells #[.bool na, .slice A1 n1 c1, .slice A2 n2 c2] 81)) 81 #[.bool nb, .slice A3 n3 c3, .slice A4 n4 c4]).alloc (.cells #[.bool false, .slice none 0 0, .slice none 0 0] 81)
  have kr := Blk.new ((w.alloc (.cells #[.bool na, .slice A1 n1 c1, .slice A2 n2 c2] 81)).alloc (.cells #[.bool nb, .slice A3 n3 c3, .slice A4 n4 c4] 81)) 81 #[.bool false, .slice none 0 0, .slice none 0 0]
  have hb0 := (((Below.refl w.heap.size w).alloc (Nat.le_refl _) (.cells #[.bool na, .slice A1 n1 c1, .slice A2 n2 c2] 81)).alloc (by simp) (.cells #[.bool nb, .slice A3 n3 c3, .slice A4 n4 c4] 81)).alloc (by simp; omega) (.cells #[.bool false, .slice none 0 0, .slice none 0 0] 81)
  have hz0 : (((w.alloc (.cells #[.bool na, .slice A1 n1 c1, .slice A2 n2 c2] 81)).alloc (.cells #[.bool nb, .slice A3 n3 c3, .slice A4 n4 c4] 81)).alloc (.cells #[.bool false, .slice none 0 0, .slice none 0 0] 81)).heap.size = w.heap.size + 3 := by simp
  simp only [World.size_alloc] at kb kr
  have KA := Lib.hid ka
  have KB := Lib.hid kb
  have KR := Lib.hid kr
  have HB0 := Lib.hid hb0
  clear ka kb kr hb0
  go_enter Tryz.func23, Tryz.ntmps23
  go_wp2_with fail
  generalize ((w.alloc (.cells #[.bool na, .slice A1 n1 c1, .slice A2 n2 c2] 81)).alloc (.cells #[.bool nb, .slice A3 n3 c3, .slice A4 n4 c4] 81)).alloc (.cells #[.bool false, .slice none 0 0, .slice none 0 0] 81) = W at *
  have HZ0 := Lib.hid hz0
  clear hz0
  have a0 := KA.out.cell 0
  have a1 := KA.out.cell 1
  have a2 := KA.out.cell 2
  have b0 := KB.out.cell 0
  have b1 := KB.out.cell 1
  have b2 := KB.out.cell 2
  have za := KA.out.lt
  have zb := KB.out.lt
  have zr0 : w.heap.size ≠ w.heap.size + 1 + 1 := by omega
  have zr1 : w.heap.size + 1 ≠ w.heap.size + 1 + 1 := by omega
  simp only [List.getElem?_toArray, List.getElem?_cons_zero, List.getElem?_cons_succ] at a0 a1 a2 b0 b1 b2
  go_region_held3 (fun w' => w'.cell? ⟨w.heap.size, 0, none⟩ = some (.bool na) ∧ w'.cell? ⟨w.heap.size, 1, none⟩ = some (.slice A1 n1 c1) ∧ w'.cell? ⟨w.heap.size, 2, none⟩ = some (.slice A2 n2 c2) ∧ w'.cell? ⟨w.heap.size + 1, 0, none⟩ = some (.bool nb) ∧ w'.cell? ⟨w.heap.size + 1, 1, none⟩ = some (.slice A3 n3 c3) ∧ w'.cell? ⟨w.heap.size + 1, 2, none⟩ = some (.slice A4 n4 c4)) (first | (go_keep; done) | exact ⟨(be _ _ za).trans a0, (be _ _ za).trans a1, (be _ _ za).trans a2, (be _ _ zb).trans b0, (be _ _ zb).trans b1, (be _ _ zb).trans b2⟩ | exact ⟨(bd _ _ za).trans a0, (bd _ _ za).trans a1, (bd _ _ za).trans a2, (bd _ _ zb).trans b0, (bd _ _ zb).trans b1, (bd _ _ zb).trans b2⟩ | exact ⟨(bc _ _ za).trans a0, (bc _ _ za).trans a1, (bc _ _ za).trans a2, (bc _ _ zb).trans b0, (bc _ _ zb).trans b1, (bc _ _ zb).trans b2⟩ | exact ⟨(far3 _ _ _ _ _ _ _ zr0).trans s0, (far3 _ _ _ _ _ _ _ zr0).trans s1, (far3 _ _ _ _ _ _ _ zr0).trans s2, (far3 _ _ _ _ _ _ _ zr1).trans s3, (far3 _ _ _ _ _ _ _ zr1).trans s4, (far3 _ _ _ _ _ _ _ zr1).trans s5⟩) ((first
    | (go_at_call 44; with_reducible show Calls _ _ #[Value.slice A1 n1 c1, Value.slice A3 n3 c3] _ _; refine (HM1.out _ HB0.out.drew).mono ?_; rintro e w1 ⟨r1, rfl, hr1, hb1⟩; replace hb1 := below_start hb1; have hl1 := hr1.len; obtain ⟨B1, k1, rfl⟩ := hl1; have bc := (bcell hb1).1)
    | (go_at_call 44; with_reducible show Calls _ _ #[Value.slice A2 n2 c2, Value.slice A4 n4 c4] _ _; refine (HM2.out _ (HB0.out.trans (hb1.mono HB0.out.size))).mono ?_; rintro e w2 ⟨r2, rfl, hr2, hb2⟩; have hl2 := hr2.len; obtain ⟨B2, k2, rfl⟩ := hl2; have bd : ∀ (b o : Nat), b < W.heap.size → w2.cell? ⟨b, o, none⟩ = W.cell? ⟨b, o, none⟩ := fun b o h => ((bcell hb2).1 b o (Nat.lt_of_lt_of_le h hb1.size)).trans (bc b o h))
    | (go_at_call 45; have hq1 : NatR w2 (fun g => W.heap.size ≤ g) _ p1 := hr1.fresh hb2; have hq2 : NatR w2 (fun g => W.heap.size ≤ g) _ p2 := hr2.more (fun g _ h => Nat.le_trans hb1.size h); refine (HRD.out _ _ _ _ hq1 hq2).mono ?_; rintro e w3 ⟨r3, rfl, hr3, hb3⟩; have be : ∀ (b o : Nat), b < W.heap.size → w3.cell? ⟨b, o, none⟩ = W.cell? ⟨b, o, none⟩ := fun b o h => ((bcell hb3).1 b o (Nat.lt_of_lt_of_le (Nat.lt_of_lt_of_le h hb1.size) hb2.size)).trans (bd b o h)
       have hsh := hr3.shape
       obtain ⟨D1, m1, d1, D2, m2, d2, rfl, -, -⟩ := hsh
       have KR3 := ((KR.out.below hb1 KR.out.lt).below hb2 (KR.out.below hb1 KR.out.lt).lt).below hb3 ((KR.out.below hb1 KR.out.lt).below hb2 (KR.out.below hb1 KR.out.lt).lt).lt
       have s0 := (be _ _ za).trans a0
       have s1 := (be _ _ za).trans a1
       have s2 := (be _ _ za).trans a2
       have s3 := (be _ _ zb).trans b0
       have s4 := (be _ _ zb).trans b1
       have s5 := (be _ _ zb).trans b2
       have e0 := KR3.cell 0
       have e1 := KR3.cell 1
       have e2 := KR3.cell 2
       have f0 := KR3.frozen 0
       have f1 := KR3.frozen 1
       have f2 := KR3.frozen 2
       simp only [List.getElem?_toArray, List.getElem?_cons_zero, List.getElem?_cons_succ] at e0 e1 e2)))
  have KR4 := Lib.hid KR3
  have HB4 : Hid (Below w.heap.size w w3) := Lib.hid (HB0.out.trans ((hb1.mono HB0.out.size).trans ((hb2.mono (Nat.le_trans HB0.out.size hb1.size)).trans (hb3.mono (Nat.le_trans HB0.out.size (Nat.le_trans hb1.size hb2.size))))))
  have HR4 := Lib.hid hr3
  have HZ2 : Hid (W.heap.size ≤ w2.heap.size) := Lib.hid (Nat.le_trans hb1.size hb2.size)
  clear hb1 hb2 hb3 hr1 hr2 hr3 hq1 hq2 bc bd be a0 a1 a2 b0 b1 b2 za zb s0 s1 s2 s3 s4 s5 e0 e1 e2 f0 f1 f2 KR3
  go_wp2_with fail
  refine bodyPost_ret (v := .agg #[.bool (ngN q), .slice D1 m1 d1, .slice D2 m2 d2]) ?_ ?_ ?_
  · exact res_cell (p := 4) (ty := 81) (fn := Tryz.f23) rfl _ _ (w.heap.size + 1 + 1) 81 #[.bool (ngN q), .slice D1 m1 d1, .slice D2 m2 d2] _ rfl (blk3' w3 _ 81 _ _ _ _ _ _ KR4.out) Tryz.underlying81 rfl frac_size
  · rfl
  exact ⟨_, rfl, ((show FR w3 _ _ q from HR4.out).keeps (keeps3' w3 (w.heap.size + 1 + 1) _ _ _) (fun i hi e => by have := HZ0.out; have := HZ2.out; omega)).more (fun g _ h => by have := HZ0.out; have := HZ2.out; omega), ((Keeps.of_below HB4.out (fun _ => False)).trans (keeps3' w3 (w.heap.size + 1 + 1) _ _ _) (fun i hi h => by omega)).to_below⟩

set_option maxRecDepth 100000 in
set_option maxHeartbeats 8000000 in
theorem fdiv_any (w : World) (T T' : Nat → Prop) (u v : Value) (a b : Rat) (k : Nat) (hu : FR w T u a) (hv : FR w T' v b) (hsa : Sz a k) (hsb : Sz b k) (hk : k ≤ 40000) (hb : b ≠ 0) :
    Calls Tryz.prog 28 #[u, v] w fun e w' => ∃ r, e = .returned r ∧ FR w' (fun g => w.heap.size + 2 < g) r (a / b) ∧ Below w.heap.size w w' := by
  have HRES := Lib.hid (rat_div a b hb)
  obtain ⟨A1, n1, c1, A2, n2, c2, rfl, h1, h2⟩ := hu.shape
  obtain ⟨A3, n3, c3, A4, n4, c4, rfl, h3, h4⟩ := hv.shape
  have H1 := Lib.hid h1
  have H2 := Lib.hid h2
  have H3 := Lib.hid h3
  have H4 := Lib.hid h4
  have HD0 : Hid (0 < a.den * b.num.natAbs) := Lib.hid (Nat.mul_pos a.den_pos (by have : b.num ≠ 0 := fun h => hb (Rat.num_eq_zero.1 h); omega))
  have HL1 : Hid ((ofN (a.num.natAbs * b.den)).length ≤ 100000) := Lib.hid (Nat.le_trans (Sz.mul hsa.1 hsb.2) (by omega))
  have HL2 : Hid ((ofN (a.den * b.num.natAbs)).length ≤ 100000) := Lib.hid (Nat.le_trans (Sz.mul hsa.2 hsb.1) (by omega))
  have HM1 : Hid (∀ W, Below w.heap.size w W → Calls Tryz.prog 44 #[Value.slice A1 n1 c1, Value.slice A4 n4 c4] W fun e w' => ∃ r, e = .returned r ∧ NatR w' (fun g => W.heap.size ≤ g) r (a.num.natAbs * b.den) ∧ Below W.heap.size W w') := Lib.hid fun W hW => mul_any W _ _ _ _ _ _ ((show NatR w _ _ _ from H1.out).fresh hW) ((show NatR w _ _ _ from H4.out).fresh hW) (Nat.le_trans hsa.1 (by omega)) (Nat.le_trans hsb.2 (by omega))
  have HM2 : Hid (∀ W, Below w.heap.size w W → Calls Tryz.prog 44 #[Value.slice A2 n2 c2, Value.slice A3 n3 c3] W fun e w' => ∃ r, e = .returned r ∧ NatR w' (fun g => W.heap.size ≤ g) r (a.den * b.num.natAbs) ∧ Below W.heap.size W w') := Lib.hid fun W hW => mul_any W _ _ _ _ _ _ ((show NatR w _ _ _ from H2.out).fresh hW) ((show NatR w _ _ _ from H3.out).fresh hW) (Nat.le_trans hsa.2 (by omega)) (Nat.le_trans hsb.1 (by omega))
  have HRD : Hid (∀ (W : World) (T : Nat → Prop) (x y : Value), NatR W T x (a.num.natAbs * b.den) → NatR W T y (a.den * b.num.natAbs) → Calls Tryz.prog 45 #[.bool (ngN a != ngN b), x, y] W fun e w' => ∃ r, e = .returned r ∧ FR w' (fun g => T g ∨ W.heap.size ≤ g) r (a / b) ∧ Below W.heap.size W w') := Lib.hid fun W T x y hx hy => by
    rw [HRES.out]
    exact reduced_any W T _ x y _ _ hx hy HD0.out HL1.out HL2.out
  clear hu hv hsa hsb hk h1 h2 h3 h4 HRES hb
  generalize a / b = q at *
  obtain ⟨p1, hp1⟩ : ∃ p, p = a.num.natAbs * b.den := ⟨_, rfl⟩
  obtain ⟨p2, hp2⟩ : ∃ p, p = a.den * b.num.natAbs := ⟨_, rfl⟩
  rw [← hp1] at HM1 HRD
  rw [← hp2] at HM2 HRD
  generalize ngN a = na at *
  generalize ngN b = nb at *
  clear hp1 hp2 HD0 HL1 HL2
  have ka := ((Blk.new w 81 #[.bool na, .slice A1 n1 c1, .slice A2 n2 c2]).alloc (.cells #[.bool nb, .slice A3 n3 c3, .slice A4 n4 c4] 81)).alloc (.cells #[.bool false, .slice none 0 0, .slice none 0 0] 81)
  have kb := (Blk.new (w.alloc (.cells #[.bool na, .slice A1 n1 c1, .slice A2 n2 c2] 81)) 81 #[.bool nb, .slice A3 n3 c3, .slice A4 n4 c4]).alloc (.cells #[.bool false, .slice none 0 0, .slice none 0 0] 81)
  have kr := Blk.new ((w.alloc (.cells #[.bool na, .slice A1 n1 c1, .slice A2 n2 c2] 81)).alloc (.cells #[.bool nb, .slice A3 n3 c3, .slice A4 n4 c4] 81)) 81 #[.bool false, .slice none 0 0, .slice none 0 0]
  have hb0 := (((Below.refl w.heap.size w).alloc (Nat.le_refl _) (.cells #[.bool na, .slice A1 n1 c1, .slice A2 n2 c2] 81)).alloc (by simp) (.cells #[.bool nb, .slice A3 n3 c3, .slice A4 n4 c4] 81)).alloc (by simp; omega) (.cells #[.bool false, .slice none 0 0, .slice none 0 0] 81)
  have hz0 : (((w.alloc (.cells #[.bool na, .slice A1 n1 c1, .slice A2 n2 c2] 81)).alloc (.cells #[.bool nb, .slice A3 n3 c3, .slice A4 n4 c4] 81)).alloc (.cells #[.bool false, .slice none 0 0, .slice none 0 0] 81)).heap.size = w.heap.size + 3 := by simp
  simp only [World.size_alloc] at kb kr
  have KA := Lib.hid ka
  have KB := Lib.hid kb
  have KR := Lib.hid kr
  have HB0 := Lib.hid hb0
  clear ka kb kr hb0
  go_enter Tryz.func28, Tryz.ntmps28
  go_wp2_with fail
  generalize ((w.alloc (.cells #[.bool na, .slice A1 n1 c1, .slice A2 n2 c2] 81)).alloc (.cells #[.bool nb, .slice A3 n3 c3, .slice A4 n4 c4] 81)).alloc (.cells #[.bool false, .slice none 0 0, .slice none 0 0] 81) = W at *
  have HZ0 := Lib.hid hz0
  clear hz0
  have a0 := KA.out.cell 0
  have a1 := KA.out.cell 1
  have a2 := KA.out.cell 2
  have b0 := KB.out.cell 0
  have b1 := KB.out.cell 1
  have b2 := KB.out.cell 2
  have za := KA.out.lt
  have zb := KB.out.lt
  have zr0 : w.heap.size ≠ w.heap.size + 1 + 1 := by omega
  have zr1 : w.heap.size + 1 ≠ w.heap.size + 1 + 1 := by omega
  simp only [List.getElem?_toArray, List.getElem?_cons_zero, List.getElem?_cons_succ] at a0 a1 a2 b0 b1 b2
  go_region_held3 (fun w' => w'.cell? ⟨w.heap.size, 0, none⟩ = some (.bool na) ∧ w'.cell? ⟨w.heap.size, 1, none⟩ = some (.slice A1 n1 c1) ∧ w'.cell? ⟨w.heap.size, 2, none⟩ = some (.slice A2 n2 c2) ∧ w'.cell? ⟨w.heap.size + 1, 0, none⟩ = some (.bool nb) ∧ w'.cell? ⟨w.heap.size + 1, 1, none⟩ = some (.slice A3 n3 c3) ∧ w'.cell? ⟨w.heap.size + 1, 2, none⟩ = some (.slice A4 n4 c4)) (first | (go_keep; done) | exact ⟨(be _ _ za).trans a0, (be _ _ za).trans a1, (be _ _ za).trans a2, (be _ _ zb).trans b0, (be _ _ zb).trans b1, (be _ _ zb).trans b2⟩ | exact ⟨(bd _ _ za).trans a0, (bd _ _ za).trans a1, (bd _ _ za).trans a2, (bd _ _ zb).trans b0, (bd _ _ zb).trans b1, (bd _ _ zb).trans b2⟩ | exact ⟨(bc _ _ za).trans a0, (bc _ _ za).trans a1, (bc _ _ za).trans a2, (bc _ _ zb).trans b0, (bc _ _ zb).trans b1, (bc _ _ zb).trans b2⟩ | exact ⟨(far3 _ _ _ _ _ _ _ zr0).trans s0, (far3 _ _ _ _ _ _ _ zr0).trans s1, (far3 _ _ _ _ _ _ _ zr0).trans s2, (far3 _ _ _ _ _ _ _ zr1).trans s3, (far3 _ _ _ _ _ _ _ zr1).trans s4, (far3 _ _ _ _ _ _ _ zr1).trans s5⟩) ((first
    | (go_at_call 44; with_reducible show Calls _ _ #[Value.slice A1 n1 c1, Value.slice A4 n4 c4] _ _; refine (HM1.out _ HB0.out.drew).mono ?_; rintro e w1 ⟨r1, rfl, hr1, hb1⟩; replace hb1 := below_start hb1; have hl1 := hr1.len; obtain ⟨B1, k1, rfl⟩ := hl1; have bc := (bcell hb1).1)
    | (go_at_call 44; with_reducible show Calls _ _ #[Value.slice A2 n2 c2, Value.slice A3 n3 c3] _ _; refine (HM2.out _ (HB0.out.trans (hb1.mono HB0.out.size))).mono ?_; rintro e w2 ⟨r2, rfl, hr2, hb2⟩; have hl2 := hr2.len; obtain ⟨B2, k2, rfl⟩ := hl2; have bd : ∀ (b o : Nat), b < W.heap.size → w2.cell? ⟨b, o, none⟩ = W.cell? ⟨b, o, none⟩ := fun b o h => ((bcell hb2).1 b o (Nat.lt_of_lt_of_le h hb1.size)).trans (bc b o h))
    | (go_at_call 45; have hq1 : NatR w2 (fun g => W.heap.size ≤ g) _ p1 := hr1.fresh hb2; have hq2 : NatR w2 (fun g => W.heap.size ≤ g) _ p2 := hr2.more (fun g _ h => Nat.le_trans hb1.size h); refine (HRD.out _ _ _ _ hq1 hq2).mono ?_; rintro e w3 ⟨r3, rfl, hr3, hb3⟩; have be : ∀ (b o : Nat), b < W.heap.size → w3.cell? ⟨b, o, none⟩ = W.cell? ⟨b, o, none⟩ := fun b o h => ((bcell hb3).1 b o (Nat.lt_of_lt_of_le (Nat.lt_of_lt_of_le h hb1.size) hb2.size)).trans (bd b o h)
       have hsh := hr3.shape
       obtain ⟨D1, m1, d1, D2, m2, d2, rfl, -, -⟩ := hsh
       have KR3 := ((KR.out.below hb1 KR.out.lt).below hb2 (KR.out.below hb1 KR.out.lt).lt).below hb3 ((KR.out.below hb1 KR.out.lt).below hb2 (KR.out.below hb1 KR.out.lt).lt).lt
       have s0 := (be _ _ za).trans a0
       have s1 := (be _ _ za).trans a1
       have s2 := (be _ _ za).trans a2
       have s3 := (be _ _ zb).trans b0
       have s4 := (be _ _ zb).trans b1
       have s5 := (be _ _ zb).trans b2
       have e0 := KR3.cell 0
       have e1 := KR3.cell 1
       have e2 := KR3.cell 2
       have f0 := KR3.frozen 0
       have f1 := KR3.frozen 1
       have f2 := KR3.frozen 2
       simp only [List.getElem?_toArray, List.getElem?_cons_zero, List.getElem?_cons_succ] at e0 e1 e2)))
  have KR4 := Lib.hid KR3
  have HB4 : Hid (Below w.heap.size w w3) := Lib.hid (HB0.out.trans ((hb1.mono HB0.out.size).trans ((hb2.mono (Nat.le_trans HB0.out.size hb1.size)).trans (hb3.mono (Nat.le_trans HB0.out.size (Nat.le_trans hb1.size hb2.size))))))
  have HR4 := Lib.hid hr3
  have HZ2 : Hid (W.heap.size ≤ w2.heap.size) := Lib.hid (Nat.le_trans hb1.size hb2.size)
  clear hb1 hb2 hb3 hr1 hr2 hr3 hq1 hq2 bc bd be a0 a1 a2 b0 b1 b2 za zb s0 s1 s2 s3 s4 s5 e0 e1 e2 f0 f1 f2 KR3
  go_wp2_with fail
  refine bodyPost_ret (v := .agg #[.bool (ngN q), .slice D1 m1 d1, .slice D2 m2 d2]) ?_ ?_ ?_
  · exact res_cell (p := 4) (ty := 81) (fn := Tryz.f28) rfl _ _ (w.heap.size + 1 + 1) 81 #[.bool (ngN q), .slice D1 m1 d1, .slice D2 m2 d2] _ rfl (blk3' w3 _ 81 _ _ _ _ _ _ KR4.out) Tryz.underlying81 rfl frac_size
  · rfl
  exact ⟨_, rfl, ((show FR w3 _ _ q from HR4.out).keeps (keeps3' w3 (w.heap.size + 1 + 1) _ _ _) (fun i hi e => by have := HZ0.out; have := HZ2.out; omega)).more (fun g _ h => by have := HZ0.out; have := HZ2.out; omega), ((Keeps.of_below HB4.out (fun _ => False)).trans (keeps3' w3 (w.heap.size + 1 + 1) _ _ _) (fun i hi h => by omega)).to_below⟩
end Go.Proofs.YtempdomhbfokmaaGreatDoor

namespace Go.Proofs.YtempdomhbfokmaaGreatDoor
open Go.RowKit

theorem ofN_add_len (a b k : Nat) (ha : (ofN a).length ≤ k) (hb : (ofN b).length ≤ k) : (ofN (a + b)).length ≤ k + 1 := by
  refine ofN_length_le _ _ ?_
  have h1 := Nat.lt_of_lt_of_le (lt_pow_ofN a) (Nat.pow_le_pow_right BB_pos ha)
  have h2 := Nat.lt_of_lt_of_le (lt_pow_ofN b) (Nat.pow_le_pow_right BB_pos hb)
  rw [Nat.pow_succ]
  have h3 : BB ^ k * 2 ≤ BB ^ k * BB := Nat.mul_le_mul_left _ (by decide)
  omega
theorem cmpF_geq (a b : Nat) : decide (0 ≤ cmpF a b) = decide (b ≤ a) := by
  unfold cmpF
  by_cases h : a < b
  · rw [if_pos h]; simp; omega
  · rw [if_neg h]
    by_cases h2 : b < a
    · rw [if_pos h2]; simp; omega
    · rw [if_neg h2]; simp; omega

set_option maxRecDepth 100000 in
set_option maxHeartbeats 16000000 in
theorem fadd_any (w : World) (T T' : Nat → Prop) (u v : Value) (a b : Rat) (k : Nat) (hu : FR w T u a) (hv : FR w T' v b) (hsa : Sz a k) (hsb : Sz b k) (hk : k ≤ 40000) :
    Calls Tryz.prog 22 #[u, v] w fun e w' => ∃ r, e = .returned r ∧ FR w' (fun g => T g ∨ T' g ∨ w.heap.size + 2 < g) r (a + b) ∧ Below w.heap.size w w' := by
  obtain ⟨A1, n1, c1, A2, n2, c2, rfl, h1, h2⟩ := hu.shape
  obtain ⟨A3, n3, c3, A4, n4, c4, rfl, h3, h4⟩ := hv.shape
  have H1 := Lib.hid h1.both
  have H2 := Lib.hid h2.both
  have H3 := Lib.hid h3.both
  have H4 := Lib.hid h4.both
  obtain ⟨xa, hxa⟩ : ∃ x, x = a.num.natAbs := ⟨_, rfl⟩
  obtain ⟨xb, hxb⟩ : ∃ x, x = b.num.natAbs := ⟨_, rfl⟩
  obtain ⟨da, hda⟩ : ∃ x, x = a.den := ⟨_, rfl⟩
  obtain ⟨db, hdb⟩ : ∃ x, x = b.den := ⟨_, rfl⟩
  have HE1 := Lib.hid (rat_add_same a b)
  have HE2 := Lib.hid (rat_add_diff a b)
  rw [← hxa, ← hxb, ← hda, ← hdb] at HE1 HE2
  have hz1 : (ofN xa).length ≤ k := by rw [hxa]; exact hsa.1
  have hz2 : (ofN da).length ≤ k := by rw [hda]; exact hsa.2
  have hz3 : (ofN xb).length ≤ k := by rw [hxb]; exact hsb.1
  have hz4 : (ofN db).length ≤ k := by rw [hdb]; exact hsb.2
  have hp1 : 0 < da := by rw [hda]; exact a.den_pos
  have hp2 : 0 < db := by rw [hdb]; exact b.den_pos
  rw [← hxa] at H1
  rw [← hda] at H2
  rw [← hxb] at H3
  rw [← hdb] at H4
  have HLP : Hid ((ofN (xa * db)).length ≤ 80000) := Lib.hid (Nat.le_trans (Sz.mul hz1 hz4) (by omega))
  have HLR : Hid ((ofN (xb * da)).length ≤ 80000) := Lib.hid (Nat.le_trans (Sz.mul hz3 hz2) (by omega))
  have HLD : Hid ((ofN (da * db)).length ≤ 80000) := Lib.hid (Nat.le_trans (Sz.mul hz2 hz4) (by omega))
  have HDP : Hid (0 < da * db) := Lib.hid (Nat.mul_pos hp1 hp2)
  have HO1 : Hid (∀ W, Below w.heap.size w W → Calls Tryz.prog 43 #[.slice A2 n2 c2] W fun e w' => e = .returned (.bool (decide (da = 1))) ∧ w' = W) := Lib.hid fun W hW => one_any W _ _ da (H2.out.fresh hW)
  have HO2 : Hid (∀ W, Below w.heap.size w W → Calls Tryz.prog 43 #[.slice A4 n4 c4] W fun e w' => e = .returned (.bool (decide (db = 1))) ∧ w' = W) := Lib.hid fun W hW => one_any W _ _ db (H4.out.fresh hW)
  have HM1 : Hid (∀ W, Below w.heap.size w W → Calls Tryz.prog 44 #[.slice A1 n1 c1, .slice A4 n4 c4] W fun e w' => ∃ r, e = .returned r ∧ NatR w' (fun g => W.heap.size ≤ g) r (xa * db) ∧ Below W.heap.size W w') := Lib.hid fun W hW => mul_any W _ _ _ _ _ _ (H1.out.fresh hW) (H4.out.fresh hW) (by omega) (by omega)
  have HM2 : Hid (∀ W, Below w.heap.size w W → Calls Tryz.prog 44 #[.slice A3 n3 c3, .slice A2 n2 c2] W fun e w' => ∃ r, e = .returned r ∧ NatR w' (fun g => W.heap.size ≤ g) r (xb * da) ∧ Below W.heap.size W w') := Lib.hid fun W hW => mul_any W _ _ _ _ _ _ (H3.out.fresh hW) (H2.out.fresh hW) (by omega) (by omega)
  have HM3 : Hid (∀ W, Below w.heap.size w W → Calls Tryz.prog 44 #[.slice A2 n2 c2, .slice A4 n4 c4] W fun e w' => ∃ r, e = .returned r ∧ NatR w' (fun g => W.heap.size ≤ g) r (da * db) ∧ Below W.heap.size W w') := Lib.hid fun W hW => mul_any W _ _ _ _ _ _ (H2.out.fresh hW) (H4.out.fresh hW) (by omega) (by omega)
  generalize ngN a = na at *
  generalize ngN b = nb at *
  generalize a + b = q at *
  clear hu hv hsa hsb hk h1 h2 h3 h4 hxa hxb hda hdb hz1 hz2 hz3 hz4 hp1 hp2
  have ka := ((Blk.new w 81 #[.bool na, .slice A1 n1 c1, .slice A2 n2 c2]).alloc (.cells #[.bool nb, .slice A3 n3 c3, .slice A4 n4 c4] 81)).alloc (.cells #[.bool false, .slice none 0 0, .slice none 0 0] 81)
  have kb := (Blk.new (w.alloc (.cells #[.bool na, .slice A1 n1 c1, .slice A2 n2 c2] 81)) 81 #[.bool nb, .slice A3 n3 c3, .slice A4 n4 c4]).alloc (.cells #[.bool false, .slice none 0 0, .slice none 0 0] 81)
  have kr := Blk.new ((w.alloc (.cells #[.bool na, .slice A1 n1 c1, .slice A2 n2 c2] 81)).alloc (.cells #[.bool nb, .slice A3 n3 c3, .slice A4 n4 c4] 81)) 81 #[.bool false, .slice none 0 0, .slice none 0 0]
  have hb0 := (((Below.refl w.heap.size w).alloc (Nat.le_refl _) (.cells #[.bool na, .slice A1 n1 c1, .slice A2 n2 c2] 81)).alloc (by simp) (.cells #[.bool nb, .slice A3 n3 c3, .slice A4 n4 c4] 81)).alloc (by simp; omega) (.cells #[.bool false, .slice none 0 0, .slice none 0 0] 81)
  have hz0 : (((w.alloc (.cells #[.bool na, .slice A1 n1 c1, .slice A2 n2 c2] 81)).alloc (.cells #[.bool nb, .slice A3 n3 c3, .slice A4 n4 c4] 81)).alloc (.cells #[.bool false, .slice none 0 0, .slice none 0 0] 81)).heap.size = w.heap.size + 3 := by simp
  simp only [World.size_alloc] at kb kr
  have KA := Lib.hid ka
  have KB := Lib.hid kb
  have KR := Lib.hid kr
  have HB0 := Lib.hid hb0
  clear ka kb kr hb0
  go_enter Tryz.func22, Tryz.ntmps22
  go_wp2_with fail
  generalize ((w.alloc (.cells #[.bool na, .slice A1 n1 c1, .slice A2 n2 c2] 81)).alloc (.cells #[.bool nb, .slice A3 n3 c3, .slice A4 n4 c4] 81)).alloc (.cells #[.bool false, .slice none 0 0, .slice none 0 0] 81) = W at *
  have HZ0 := Lib.hid hz0
  clear hz0
  have a0 := KA.out.cell 0
  have a1 := KA.out.cell 1
  have a2 := KA.out.cell 2
  have b0 := KB.out.cell 0
  have b1 := KB.out.cell 1
  have b2 := KB.out.cell 2
  simp only [List.getElem?_toArray, List.getElem?_cons_zero, List.getElem?_cons_succ] at a0 a1 a2 b0 b1 b2
  go_region_held3 (fun w' => w'.cell? ⟨w.heap.size, 1, none⟩ = some (.slice A1 n1 c1) ∧ w'.cell? ⟨w.heap.size + 1, 1, none⟩ = some (.slice A3 n3 c3)) (go_keep) (fail)
  have KA1 := Lib.hid KA.out.drew
  have KB1 := Lib.hid KB.out.drew
  have KR1 := Lib.hid KR.out.drew
  have HB1 := Lib.hid HB0.out.drew
  have HZ1 : Hid (W.drew.heap.size = w.heap.size + 3) := Lib.hid HZ0.out
  clear KA KB KR HB0 HZ0 a0 a1 a2 b0 b1 b2
  generalize W.drew = W1 at *
  have a2 : W1.cell? ⟨w.heap.size, 2, none⟩ = some (.slice A2 n2 c2) := KA1.out.cell 2
  have b2 : W1.cell? ⟨w.heap.size + 1, 2, none⟩ = some (.slice A4 n4 c4) := KB1.out.cell 2
  go_upto_region 3 with (fail)
  go_cut [23] (fun x wc => x = .bool (!(decide (da = 1) && decide (db = 1))) ∧ W1 = wc)
  case first =>
    by_cases hd1 : da = 1
    · have t1 : decide (da = 1) = true := by simpa using hd1
      rw [t1] at HO1
      have T1 := Lib.hid t1
      clear hd1
      by_cases hd2 : db = 1
      · have t2 : decide (db = 1) = true := by simpa using hd2
        rw [t2] at HO2
        have T2 := Lib.hid t2
        clear hd2
        clear t1 t2
        go_wp2_with fail
        refine (HO1.out _ HB1.out).mono ?_
        rintro e w' ⟨rfl, rfl⟩
        go_wp2_with fail
        refine (HO2.out _ HB1.out).mono ?_
        rintro e w' ⟨rfl, rfl⟩
        go_wp2_with fail
        go_meet
        exact ⟨by rw [T1.out, T2.out]; rfl, rfl⟩
      · have t2 : decide (db = 1) = false := by simpa using hd2
        rw [t2] at HO2
        have T2 := Lib.hid t2
        clear hd2
        clear t1 t2
        go_wp2_with fail
        refine (HO1.out _ HB1.out).mono ?_
        rintro e w' ⟨rfl, rfl⟩
        go_wp2_with fail
        refine (HO2.out _ HB1.out).mono ?_
        rintro e w' ⟨rfl, rfl⟩
        go_wp2_with fail
        go_meet
        exact ⟨by rw [T1.out, T2.out]; rfl, rfl⟩
    · have t1 : decide (da = 1) = false := by simpa using hd1
      rw [t1] at HO1
      have T1 := Lib.hid t1
      clear hd1 t1
      go_wp2_with fail
      refine (HO1.out _ HB1.out).mono ?_
      rintro e w' ⟨rfl, rfl⟩
      go_wp2_with fail
      go_meet
      exact ⟨by rw [T1.out]; rfl, rfl⟩
  obtain ⟨rfl, rfl⟩ := hcut
  clear HO1 HO2
  go_upto_if 23 with (fail)
  go_cut [5, 6, 7] (fun x y z wc => ∃ (X1 : Option Addr) (l1 k1 : Nat) (X2 : Option Addr) (l2 k2 : Nat) (X3 : Option Addr) (l3 k3 : Nat), x = .slice X1 l1 k1 ∧ y = .slice X2 l2 k2 ∧ z = .slice X3 l3 k3 ∧ Hid (NatR wc (fun g => (T g ∧ g < w.heap.size) ∨ (T' g ∧ g < w.heap.size) ∨ w.heap.size + 2 < g) (.slice X1 l1 k1) (xa * db)) ∧ Hid (NatR wc (fun g => (T g ∧ g < w.heap.size) ∨ (T' g ∧ g < w.heap.size) ∨ w.heap.size + 2 < g) (.slice X2 l2 k2) (xb * da)) ∧ Hid (NatR wc (fun g => (T g ∧ g < w.heap.size) ∨ (T' g ∧ g < w.heap.size) ∨ w.heap.size + 2 < g) (.slice X3 l3 k3) (da * db)) ∧ Hid (Blk wc w.heap.size 81 #[.bool na, .slice A1 n1 c1, .slice A2 n2 c2]) ∧ Hid (Blk wc (w.heap.size + 1) 81 #[.bool nb, .slice A3 n3 c3, .slice A4 n4 c4]) ∧ Hid (Blk wc (w.heap.size + 1 + 1) 81 #[.bool false, .slice none 0 0, .slice none 0 0]) ∧ Hid (Below w.heap.size w wc) ∧ Hid (w.heap.size + 3 ≤ wc.heap.size))
  case first =>
    by_cases hd : da = 1 ∧ db = 1
    · obtain ⟨hd1, hd2⟩ := hd
      have t1 : (!(decide (da = 1) && decide (db = 1))) = false := by rw [hd1, hd2]; rfl
      have D1 := Lib.hid hd1
      have D2 := Lib.hid hd2
      rw [t1]
      clear hd1 hd2 t1
      go_wp2_with fail
      go_meet
      refine ⟨A1, n1, c1, A3, n3, c3, A2, n2, c2, rfl, rfl, rfl, ?_, ?_, ?_, KA1, KB1, KR1, HB1, Lib.hid (by have := HZ1.out; omega)⟩
      · show NatR _ _ _ _
        rw [D2.out, Nat.mul_one]
        exact (H1.out.fresh HB1.out).more (fun g _ h => Or.inl h)
      · show NatR _ _ _ _
        rw [D1.out, Nat.mul_one]
        exact (H3.out.fresh HB1.out).more (fun g _ h => Or.inr (Or.inl h))
      · show NatR _ _ _ _
        rw [D2.out, Nat.mul_one]
        exact (H2.out.fresh HB1.out).more (fun g _ h => Or.inl h)
    · have t1 : (!(decide (da = 1) && decide (db = 1))) = true := by
        by_cases h : da = 1
        · have h2 : ¬ db = 1 := fun e => hd ⟨h, e⟩
          simp [h, h2]
        · simp [h]
      rw [t1]
      clear hd t1
      have a1 : W1.cell? ⟨w.heap.size, 1, none⟩ = some (.slice A1 n1 c1) := KA1.out.cell 1
      have b1 : W1.cell? ⟨w.heap.size + 1, 1, none⟩ = some (.slice A3 n3 c3) := KB1.out.cell 1
      have za := KA1.out.lt
      have zb := KB1.out.lt
      go_wp2_with fail
      go_region_held3 (fun w' => w'.cell? ⟨w.heap.size, 1, none⟩ = some (.slice A1 n1 c1) ∧ w'.cell? ⟨w.heap.size, 2, none⟩ = some (.slice A2 n2 c2) ∧ w'.cell? ⟨w.heap.size + 1, 1, none⟩ = some (.slice A3 n3 c3) ∧ w'.cell? ⟨w.heap.size + 1, 2, none⟩ = some (.slice A4 n4 c4)) (first | (go_keep; done) | exact ⟨(be _ _ za).trans a1, (be _ _ za).trans a2, (be _ _ zb).trans b1, (be _ _ zb).trans b2⟩ | exact ⟨(bd _ _ za).trans a1, (bd _ _ za).trans a2, (bd _ _ zb).trans b1, (bd _ _ zb).trans b2⟩ | exact ⟨(bc _ _ za).trans a1, (bc _ _ za).trans a2, (bc _ _ zb).trans b1, (bc _ _ zb).trans b2⟩) ((first
        | (go_at_call 44; with_reducible show Calls _ _ #[Value.slice A1 n1 c1, Value.slice A4 n4 c4] _ _; refine (HM1.out _ HB1.out.drew).mono ?_; rintro e w1 ⟨r1, rfl, hr1, hb1⟩; replace hb1 := below_start hb1; have bc := (bcell hb1).1)
        | (go_at_call 44; with_reducible show Calls _ _ #[Value.slice A3 n3 c3, Value.slice A2 n2 c2] _ _; refine (HM2.out _ (HB1.out.trans (hb1.mono HB1.out.size))).mono ?_; rintro e w2 ⟨r2, rfl, hr2, hb2⟩; have bd : ∀ (b o : Nat), b < W1.heap.size → w2.cell? ⟨b, o, none⟩ = W1.cell? ⟨b, o, none⟩ := fun b o h => ((bcell hb2).1 b o (Nat.lt_of_lt_of_le h hb1.size)).trans (bc b o h))
        | (go_at_call 44; with_reducible show Calls _ _ #[Value.slice A2 n2 c2, Value.slice A4 n4 c4] _ _; refine (HM3.out _ ((HB1.out.trans (hb1.mono HB1.out.size)).trans (hb2.mono (HB1.out.trans (hb1.mono HB1.out.size)).size))).mono ?_; rintro e w3 ⟨r3, rfl, hr3, hb3⟩; have be : ∀ (b o : Nat), b < W1.heap.size → w3.cell? ⟨b, o, none⟩ = W1.cell? ⟨b, o, none⟩ := fun b o h => ((bcell hb3).1 b o (Nat.lt_of_lt_of_le (Nat.lt_of_lt_of_le h hb1.size) hb2.size)).trans (bd b o h))))
      have hb13 : Below W1.heap.size W1 w3 := hb1.trans ((hb2.mono hb1.size).trans (hb3.mono (Nat.le_trans hb1.size hb2.size)))
      have s12 : W1.heap.size ≤ w1.heap.size := hb1.size
      have s23 : w1.heap.size ≤ w2.heap.size := hb2.size
      have s34 : w2.heap.size ≤ w3.heap.size := hb3.size
      have hq1 : NatR w3 (fun g => (T g ∧ g < w.heap.size) ∨ (T' g ∧ g < w.heap.size) ∨ w.heap.size + 2 < g) r1 (xa * db) := ((hr1.fresh hb2).fresh hb3).more (fun g _ h => Or.inr (Or.inr (by have := HZ1.out; have h2 : W1.heap.size ≤ g := h; omega)))
      have hq2 : NatR w3 (fun g => (T g ∧ g < w.heap.size) ∨ (T' g ∧ g < w.heap.size) ∨ w.heap.size + 2 < g) r2 (xb * da) := (hr2.fresh hb3).more (fun g _ h => Or.inr (Or.inr (by have := HZ1.out; omega)))
      have hq3 : NatR w3 (fun g => (T g ∧ g < w.heap.size) ∨ (T' g ∧ g < w.heap.size) ∨ w.heap.size + 2 < g) r3 (da * db) := hr3.more (fun g _ h => Or.inr (Or.inr (by have := HZ1.out; omega)))
      obtain ⟨X1, k1, rfl⟩ := hq1.len
      obtain ⟨X2, k2, rfl⟩ := hq2.len
      obtain ⟨X3, k3, rfl⟩ := hq3.len
      have Q1 := Lib.hid hq1
      have Q2 := Lib.hid hq2
      have Q3 := Lib.hid hq3
      have KA3 := Lib.hid (KA1.out.below hb13 KA1.out.lt)
      have KB3 := Lib.hid (KB1.out.below hb13 KB1.out.lt)
      have KR3 := Lib.hid (KR1.out.below hb13 KR1.out.lt)
      have HB3 := Lib.hid (HB1.out.trans (hb13.mono HB1.out.size))
      have HZ3 : Hid (w.heap.size + 3 ≤ w3.heap.size) := Lib.hid (by have := HZ1.out; omega)
      clear hb1 hb2 hb3 hb13 hr1 hr2 hr3 hq1 hq2 hq3 s12 s23 s34 bc bd be a1 b1 a2 b2 za zb
      go_wp2_with fail
      go_meet
      exact ⟨_, _, _, _, _, _, _, _, _, rfl, rfl, rfl, Q1, Q2, Q3, KA3, KB3, KR3, HB3, HZ3⟩
  obtain ⟨X1, l1, k1, X2, l2, k2, X3, l3, k3, rfl, rfl, rfl, Q1, Q2, Q3, KA3, KB3, KR3, HB3, HZ3⟩ := hcut
  clear HM1 HM2 HM3 KA1 KB1 KR1 HB1 HZ1 a2 b2
  rename_i wc
  generalize hP : xa * db = P at *
  generalize hR : xb * da = R at *
  generalize hD : da * db = D at *
  clear hP hR hD
  have a0 : wc.cell? ⟨w.heap.size, 0, none⟩ = some (.bool na) := KA3.out.cell 0
  have b0 : wc.cell? ⟨w.heap.size + 1, 0, none⟩ = some (.bool nb) := KB3.out.cell 0
  have za := KA3.out.lt
  have zb := KB3.out.lt
  have zr0 : w.heap.size ≠ w.heap.size + 1 + 1 := by omega
  have zr1 : w.heap.size + 1 ≠ w.heap.size + 1 + 1 := by omega
  have BREF := Lib.hid (Below.refl wc.heap.size wc).drew
  have HRD : Hid (∀ (W : World) (T : Nat → Prop) (s : Bool) (n : Nat) (x y : Value), (ofN n).length ≤ 100000 → NatR W T x n → NatR W T y D → Calls Tryz.prog 45 #[.bool s, x, y] W fun e w' => ∃ r, e = .returned r ∧ FR w' (fun g => T g ∨ W.heap.size ≤ g) r (mkRat (sgn s n) D) ∧ Below W.heap.size W w') := Lib.hid fun W T s n x y hn hx hy =>
    reduced_any W T s x y n D hx hy HDP.out hn (Nat.le_trans HLD.out (by omega))
  by_cases hab : na = nb
  · have t0 : (na == nb) = true := by simpa using hab
    have HE := Lib.hid (HE1.out hab)
    have HLS := Lib.hid (Nat.le_trans (ofN_add_len P R 80000 HLP.out HLR.out) (show 80000 + 1 ≤ 100000 by omega))
    have HADD := Lib.hid (fun W (hW : Below wc.heap.size wc W) => add_any W _ _ _ _ P R (Q1.out.fresh hW) (Q2.out.fresh hW) (Nat.le_trans HLP.out (by omega)) (Nat.le_trans HLR.out (by omega)))
    clear hab
    go_wp2_with fail
    go_region_held3 (fun w' => w'.cell? ⟨w.heap.size, 0, none⟩ = some (.bool na)) (first | (go_keep; done) | exact s5 | exact s4 | exact (far3 _ _ _ _ _ _ _ zr0).trans s5) ((first
      | (go_at_call 46; refine (HADD.out _ BREF.out).mono ?_; rintro e w4 ⟨r4, rfl, hr4, hb4⟩; replace hb4 := below_start hb4; have s4 : w4.cell? ⟨w.heap.size, 0, none⟩ = some (.bool na) := ((bcell hb4).1 _ _ za).trans a0; have z4 : w.heap.size < w4.heap.size := Nat.lt_of_lt_of_le za hb4.size)
      | (go_at_call 45; have hq4 : NatR w4 (fun g => (fun g => (T g ∧ g < w.heap.size) ∨ (T' g ∧ g < w.heap.size) ∨ w.heap.size + 2 < g) g ∨ wc.heap.size ≤ g) _ (P + R) := hr4.more (fun g _ h => Or.inr h); have hq3 : NatR w4 (fun g => (fun g => (T g ∧ g < w.heap.size) ∨ (T' g ∧ g < w.heap.size) ∨ w.heap.size + 2 < g) g ∨ wc.heap.size ≤ g) _ D := (Q3.out.fresh hb4).more (fun g _ h => Or.inl h); refine (HRD.out _ _ _ _ _ _ HLS.out hq4 hq3).mono ?_; rintro e w5 ⟨r5, rfl, hr5, hb5⟩; have hsh := hr5.shape; obtain ⟨D1, m1, d1, D2, m2, d2, rfl, -, -⟩ := hsh
         have s5 : w5.cell? ⟨w.heap.size, 0, none⟩ = some (.bool na) := ((bcell hb5).1 _ _ z4).trans s4
         have KR5 := (KR3.out.below hb4 KR3.out.lt).below hb5 (KR3.out.below hb4 KR3.out.lt).lt
         have e0 := KR5.cell 0
         have e1 := KR5.cell 1
         have e2 := KR5.cell 2
         have f0 := KR5.frozen 0
         have f1 := KR5.frozen 1
         have f2 := KR5.frozen 2
         simp only [List.getElem?_toArray, List.getElem?_cons_zero, List.getElem?_cons_succ] at e0 e1 e2)))
    have KR6 := Lib.hid KR5
    have HR5 := Lib.hid hr5
    have HBE := Lib.hid (HB3.out.trans ((hb4.trans (hb5.mono hb4.size)).mono HB3.out.size))
    have HZ4 : Hid (wc.heap.size ≤ w4.heap.size) := Lib.hid hb4.size
    clear hb4 hb5 hr4 hr5 hq3 hq4 s4 s5 z4 e0 e1 e2 f0 f1 f2 KR5 a0 b0 za zb
    go_wp2_with fail
    refine bodyPost_ret (v := .agg #[.bool (ngN (mkRat (sgn na (P + R)) D)), .slice D1 m1 d1, .slice D2 m2 d2]) ?_ ?_ ?_
    · exact res_cell (p := 4) (ty := 81) (fn := Tryz.f22) rfl _ _ (w.heap.size + 1 + 1) 81 #[.bool (ngN (mkRat (sgn na (P + R)) D)), .slice D1 m1 d1, .slice D2 m2 d2] _ rfl (blk3' w5 _ 81 _ _ _ _ _ _ KR6.out) Tryz.underlying81 rfl frac_size
    · rfl
    refine ⟨_, rfl, ?_, ((Keeps.of_below HBE.out (fun _ => False)).trans (keeps3' w5 (w.heap.size + 1 + 1) _ _ _) (fun i hi h => by omega)).to_below⟩
    rw [HE.out]
    have h5 := HR5.out.keeps (keeps3' w5 (w.heap.size + 1 + 1) (.bool (ngN (mkRat (sgn na (P + R)) D))) (.slice D1 m1 d1) (.slice D2 m2 d2)) (fun i hi e => by have := HZ3.out; have := HZ4.out; rcases hi with ((⟨_, h⟩ | ⟨_, h⟩ | h) | h) | h <;> omega)
    exact h5.more (fun g _ hi => match hi with
      | Or.inl (Or.inl (Or.inl h)) => Or.inl h.1
      | Or.inl (Or.inl (Or.inr (Or.inl h))) => Or.inr (Or.inl h.1)
      | Or.inl (Or.inl (Or.inr (Or.inr h))) => Or.inr (Or.inr h)
      | Or.inl (Or.inr h) => Or.inr (Or.inr (by have := HZ3.out; omega))
      | Or.inr h => Or.inr (Or.inr (by have := HZ3.out; have := HZ4.out; omega)))
  have t0 : (na == nb) = false := by simpa using hab
  have HE := Lib.hid (HE2.out hab)
  have HCM := Lib.hid (cmp_any wc _ _ _ _ P R Q1.out Q2.out)
  have hcg := cmpF_geq P R
  generalize cmpF P R = cf at *
  clear hab
  by_cases hle : R ≤ P
  · have t1 : decide (0 ≤ cf) = true := by rw [hcg]; simpa using hle
    have t2 : (0 : Int) ≤ cf := by simpa using t1
    have HES : Hid (q = mkRat (sgn na (P - R)) D) := Lib.hid (by have := HE.out; rwa [if_pos hle] at this)
    have HLS := Lib.hid (Nat.le_trans (ofN_length_mono (P - R) P (Nat.sub_le _ _)) (Nat.le_trans HLP.out (show 80000 ≤ 100000 by omega)))
    have HSUB := Lib.hid (fun W (hW : Below wc.heap.size wc W) => sub_any W _ _ _ _ P R (Q1.out.fresh hW) (Q2.out.fresh hW) (Nat.le_trans HLP.out (by omega)) hle)
    clear hle hcg
    go_wp2_with fail
    refine HCM.out.mono ?_
    rintro e w' ⟨rfl, kd, rfl⟩
    have Q3W : Hid (NatR (wc.drewN kd) (fun g => (T g ∧ g < w.heap.size) ∨ (T' g ∧ g < w.heap.size) ∨ w.heap.size + 2 < g) (.slice X3 l3 k3) D) := Lib.hid Q3.out
    have KRW : Hid (Blk (wc.drewN kd) (w.heap.size + 1 + 1) 81 #[.bool false, .slice none 0 0, .slice none 0 0]) := Lib.hid KR3.out
    have HBW : Hid (Below w.heap.size w (wc.drewN kd)) := Lib.hid (((Keeps.of_below HB3.out (fun _ => False)).drewN kd).to_below)
    have a02 : (wc.drewN kd).cell? ⟨w.heap.size, 0, none⟩ = some (.bool na) := a0
    have b02 : (wc.drewN kd).cell? ⟨w.heap.size + 1, 0, none⟩ = some (.bool nb) := b0
    have za2 : w.heap.size < (wc.drewN kd).heap.size := za
    have zb2 : w.heap.size + 1 < (wc.drewN kd).heap.size := zb
    have BREF2 : Hid (Below wc.heap.size wc (wc.drewN kd).drew) := Lib.hid ((((Keeps.refl (fun _ => False) wc).drewN kd).drew).to_below)
    go_wp2_with fail
    go_region_held3 (fun w' => w'.cell? ⟨w.heap.size, 0, none⟩ = some (.bool na)) (first | (go_keep; done) | exact s5 | exact s4 | exact (far3 _ _ _ _ _ _ _ zr0).trans s5) ((first
      | (go_at_call 48; refine (HSUB.out _ BREF2.out).mono ?_; rintro e w4 ⟨r4, rfl, hr4, hb4⟩; replace hb4 := below_start hb4; have s4 : w4.cell? ⟨w.heap.size, 0, none⟩ = some (.bool na) := ((bcell hb4).1 _ _ za2).trans a02; have z4 : w.heap.size < w4.heap.size := Nat.lt_of_lt_of_le za2 hb4.size)
      | (go_at_call 45; have hq4 : NatR w4 (fun g => (fun g => (T g ∧ g < w.heap.size) ∨ (T' g ∧ g < w.heap.size) ∨ w.heap.size + 2 < g) g ∨ wc.heap.size ≤ g) _ (P - R) := hr4.more (fun g _ h => Or.inr h); have hq3 : NatR w4 (fun g => (fun g => (T g ∧ g < w.heap.size) ∨ (T' g ∧ g < w.heap.size) ∨ w.heap.size + 2 < g) g ∨ wc.heap.size ≤ g) _ D := (Q3W.out.fresh hb4).more (fun g _ h => Or.inl h); refine (HRD.out _ _ _ _ _ _ HLS.out hq4 hq3).mono ?_; rintro e w5 ⟨r5, rfl, hr5, hb5⟩; have hsh := hr5.shape; obtain ⟨D1, m1, d1, D2, m2, d2, rfl, -, -⟩ := hsh
         have s5 : w5.cell? ⟨w.heap.size, 0, none⟩ = some (.bool na) := ((bcell hb5).1 _ _ z4).trans s4
         have KR5 := (KRW.out.below hb4 KRW.out.lt).below hb5 (KRW.out.below hb4 KRW.out.lt).lt
         have e0 := KR5.cell 0
         have e1 := KR5.cell 1
         have e2 := KR5.cell 2
         have f0 := KR5.frozen 0
         have f1 := KR5.frozen 1
         have f2 := KR5.frozen 2
         simp only [List.getElem?_toArray, List.getElem?_cons_zero, List.getElem?_cons_succ] at e0 e1 e2)))
    have KR6 := Lib.hid KR5
    have HR5 := Lib.hid hr5
    have HBE := Lib.hid (HBW.out.trans ((hb4.trans (hb5.mono hb4.size)).mono HBW.out.size))
    have HZ4 : Hid (wc.heap.size ≤ w4.heap.size) := Lib.hid hb4.size
    clear hb4 hb5 hr4 hr5 hq3 hq4 s4 s5 z4 e0 e1 e2 f0 f1 f2 KR5 a0 b0 za zb a02 b02 za2 zb2
    go_wp2_with fail
    refine bodyPost_ret (v := .agg #[.bool (ngN (mkRat (sgn na (P - R)) D)), .slice D1 m1 d1, .slice D2 m2 d2]) ?_ ?_ ?_
    · exact res_cell (p := 4) (ty := 81) (fn := Tryz.f22) rfl _ _ (w.heap.size + 1 + 1) 81 #[.bool (ngN (mkRat (sgn na (P - R)) D)), .slice D1 m1 d1, .slice D2 m2 d2] _ rfl (blk3' w5 _ 81 _ _ _ _ _ _ KR6.out) Tryz.underlying81 rfl frac_size
    · rfl
    refine ⟨_, rfl, ?_, ((Keeps.of_below HBE.out (fun _ => False)).trans (keeps3' w5 (w.heap.size + 1 + 1) _ _ _) (fun i hi h => by omega)).to_below⟩
    rw [HES.out]
    have h5 := HR5.out.keeps (keeps3' w5 (w.heap.size + 1 + 1) (.bool (ngN (mkRat (sgn na (P - R)) D))) (.slice D1 m1 d1) (.slice D2 m2 d2)) (fun i hi e => by have := HZ3.out; have := HZ4.out; rcases hi with ((⟨_, h⟩ | ⟨_, h⟩ | h) | h) | h <;> omega)
    exact h5.more (fun g _ hi => match hi with
      | Or.inl (Or.inl (Or.inl h)) => Or.inl h.1
      | Or.inl (Or.inl (Or.inr (Or.inl h))) => Or.inr (Or.inl h.1)
      | Or.inl (Or.inl (Or.inr (Or.inr h))) => Or.inr (Or.inr h)
      | Or.inl (Or.inr h) => Or.inr (Or.inr (by have := HZ3.out; omega))
      | Or.inr h => Or.inr (Or.inr (by have := HZ3.out; have := HZ4.out; omega)))
  · have t1 : decide (0 ≤ cf) = false := by rw [hcg]; simpa using hle
    have t2 : ¬ (0 : Int) ≤ cf := by simpa using t1
    have HES : Hid (q = mkRat (sgn nb (R - P)) D) := Lib.hid (by have := HE.out; rwa [if_neg hle] at this)
    have HLS := Lib.hid (Nat.le_trans (ofN_length_mono (R - P) R (Nat.sub_le _ _)) (Nat.le_trans HLR.out (show 80000 ≤ 100000 by omega)))
    have HSUB := Lib.hid (fun W (hW : Below wc.heap.size wc W) => sub_any W _ _ _ _ R P (Q2.out.fresh hW) (Q1.out.fresh hW) (Nat.le_trans HLR.out (by omega)) (Nat.le_of_lt (Nat.lt_of_not_le hle)))
    clear hle hcg
    go_wp2_with fail
    refine HCM.out.mono ?_
    rintro e w' ⟨rfl, kd, rfl⟩
    have Q3W : Hid (NatR (wc.drewN kd) (fun g => (T g ∧ g < w.heap.size) ∨ (T' g ∧ g < w.heap.size) ∨ w.heap.size + 2 < g) (.slice X3 l3 k3) D) := Lib.hid Q3.out
    have KRW : Hid (Blk (wc.drewN kd) (w.heap.size + 1 + 1) 81 #[.bool false, .slice none 0 0, .slice none 0 0]) := Lib.hid KR3.out
    have HBW : Hid (Below w.heap.size w (wc.drewN kd)) := Lib.hid (((Keeps.of_below HB3.out (fun _ => False)).drewN kd).to_below)
    have a02 : (wc.drewN kd).cell? ⟨w.heap.size, 0, none⟩ = some (.bool na) := a0
    have b02 : (wc.drewN kd).cell? ⟨w.heap.size + 1, 0, none⟩ = some (.bool nb) := b0
    have za2 : w.heap.size < (wc.drewN kd).heap.size := za
    have zb2 : w.heap.size + 1 < (wc.drewN kd).heap.size := zb
    have BREF2 : Hid (Below wc.heap.size wc (wc.drewN kd).drew) := Lib.hid ((((Keeps.refl (fun _ => False) wc).drewN kd).drew).to_below)
    go_wp2_with fail
    go_region_held3 (fun w' => w'.cell? ⟨w.heap.size + 1, 0, none⟩ = some (.bool nb)) (first | (go_keep; done) | exact s5 | exact s4 | exact (far3 _ _ _ _ _ _ _ zr1).trans s5) ((first
      | (go_at_call 48; refine (HSUB.out _ BREF2.out).mono ?_; rintro e w4 ⟨r4, rfl, hr4, hb4⟩; replace hb4 := below_start hb4; have s4 : w4.cell? ⟨w.heap.size + 1, 0, none⟩ = some (.bool nb) := ((bcell hb4).1 _ _ zb2).trans b02; have z4 : w.heap.size + 1 < w4.heap.size := Nat.lt_of_lt_of_le zb2 hb4.size)
      | (go_at_call 45; have hq4 : NatR w4 (fun g => (fun g => (T g ∧ g < w.heap.size) ∨ (T' g ∧ g < w.heap.size) ∨ w.heap.size + 2 < g) g ∨ wc.heap.size ≤ g) _ (R - P) := hr4.more (fun g _ h => Or.inr h); have hq3 : NatR w4 (fun g => (fun g => (T g ∧ g < w.heap.size) ∨ (T' g ∧ g < w.heap.size) ∨ w.heap.size + 2 < g) g ∨ wc.heap.size ≤ g) _ D := (Q3W.out.fresh hb4).more (fun g _ h => Or.inl h); refine (HRD.out _ _ _ _ _ _ HLS.out hq4 hq3).mono ?_; rintro e w5 ⟨r5, rfl, hr5, hb5⟩; have hsh := hr5.shape; obtain ⟨D1, m1, d1, D2, m2, d2, rfl, -, -⟩ := hsh
         have s5 : w5.cell? ⟨w.heap.size + 1, 0, none⟩ = some (.bool nb) := ((bcell hb5).1 _ _ z4).trans s4
         have KR5 := (KRW.out.below hb4 KRW.out.lt).below hb5 (KRW.out.below hb4 KRW.out.lt).lt
         have e0 := KR5.cell 0
         have e1 := KR5.cell 1
         have e2 := KR5.cell 2
         have f0 := KR5.frozen 0
         have f1 := KR5.frozen 1
         have f2 := KR5.frozen 2
         simp only [List.getElem?_toArray, List.getElem?_cons_zero, List.getElem?_cons_succ] at e0 e1 e2)))
    have KR6 := Lib.hid KR5
    have HR5 := Lib.hid hr5
    have HBE := Lib.hid (HBW.out.trans ((hb4.trans (hb5.mono hb4.size)).mono HBW.out.size))
    have HZ4 : Hid (wc.heap.size ≤ w4.heap.size) := Lib.hid hb4.size
    clear hb4 hb5 hr4 hr5 hq3 hq4 s4 s5 z4 e0 e1 e2 f0 f1 f2 KR5 a0 b0 za zb a02 b02 za2 zb2
    go_wp2_with fail
    refine bodyPost_ret (v := .agg #[.bool (ngN (mkRat (sgn nb (R - P)) D)), .slice D1 m1 d1, .slice D2 m2 d2]) ?_ ?_ ?_
    · exact res_cell (p := 4) (ty := 81) (fn := Tryz.f22) rfl _ _ (w.heap.size + 1 + 1) 81 #[.bool (ngN (mkRat (sgn nb (R - P)) D)), .slice D1 m1 d1, .slice D2 m2 d2] _ rfl (blk3' w5 _ 81 _ _ _ _ _ _ KR6.out) Tryz.underlying81 rfl frac_size
    · rfl
    refine ⟨_, rfl, ?_, ((Keeps.of_below HBE.out (fun _ => False)).trans (keeps3' w5 (w.heap.size + 1 + 1) _ _ _) (fun i hi h => by omega)).to_below⟩
    rw [HES.out]
    have h5 := HR5.out.keeps (keeps3' w5 (w.heap.size + 1 + 1) (.bool (ngN (mkRat (sgn nb (R - P)) D))) (.slice D1 m1 d1) (.slice D2 m2 d2)) (fun i hi e => by have := HZ3.out; have := HZ4.out; rcases hi with ((⟨_, h⟩ | ⟨_, h⟩ | h) | h) | h <;> omega)
    exact h5.more (fun g _ hi => match hi with
      | Or.inl (Or.inl (Or.inl h)) => Or.inl h.1
      | Or.inl (Or.inl (Or.inr (Or.inl h))) => Or.inr (Or.inl h.1)
      | Or.inl (Or.inl (Or.inr (Or.inr h))) => Or.inr (Or.inr h)
      | Or.inl (Or.inr h) => Or.inr (Or.inr (by have := HZ3.out; omega))
      | Or.inr h => Or.inr (Or.inr (by have := HZ3.out; have := HZ4.out; omega)))
end Go.Proofs.YtempdomhbfokmaaGreatDoor

namespace Go.Proofs.YtempdomhbfokmaaGreatDoor
open Go.RowKit

set_option maxRecDepth 100000 in
set_option maxHeartbeats 8000000 in
theorem fneg_any (w : World) (T : Nat → Prop) (u : Value) (a : Rat) (hu : FR w T u a) :
    Calls Tryz.prog 49 #[u] w fun e w' => ∃ r, e = .returned r ∧ FR w' T r (-a) ∧ Below w.heap.size w w' := by
  obtain ⟨A1, n1, c1, A2, n2, c2, rfl, h1, h2⟩ := hu.shape
  have H1 := Lib.hid h1.both
  have H2 := Lib.hid h2.both
  have HN := Lib.hid (rat_neg a)
  obtain ⟨xa, hxa⟩ : ∃ x, x = a.num.natAbs := ⟨_, rfl⟩
  rw [← hxa] at H1 HN
  have HO : Hid (∀ W, Below w.heap.size w W → Calls Tryz.prog 75 #[.slice A1 n1 c1] W fun e w' => e = .returned (.bool (decide (xa = 0))) ∧ w' = W) := Lib.hid fun W hW => zero_any W _ _ xa (H1.out.fresh hW)
  have HR : Hid (∀ (w' : World), Below w.heap.size w w' → FR w' T (.agg #[.bool (ngN (-a)), .slice A1 n1 c1, .slice A2 n2 c2]) (-a)) := Lib.hid fun w' hb => ⟨_, _, rfl, by rw [HN.out.1]; exact (H1.out.fresh hb).more (fun _ _ h => h.1), by rw [HN.out.2.1]; exact (H2.out.fresh hb).more (fun _ _ h => h.1)⟩
  have hx : ngN (-a) = (!ngN a && !decide (xa = 0)) := HN.out.2.2
  rw [hx] at HR
  generalize ngN a = na at *
  generalize decide (xa = 0) = z at *
  clear hu h1 h2 hxa HN hx H1 H2
  have hB : ∀ x y : Bool, Below w.heap.size w ((w.alloc (.cells #[.bool x, .slice A1 n1 c1, .slice A2 n2 c2] 81)).alloc (.cells #[.bool y, .slice A1 n1 c1, .slice A2 n2 c2] 81)) := fun x y => ((Below.refl w.heap.size w).alloc (Nat.le_refl _) _).alloc (by simp) _
  have HBB := Lib.hid hB
  have hK : ∀ x y : Bool, Blk ((w.alloc (.cells #[.bool x, .slice A1 n1 c1, .slice A2 n2 c2] 81)).alloc (.cells #[.bool y, .slice A1 n1 c1, .slice A2 n2 c2] 81)) (w.heap.size + 1) 81 #[.bool y, .slice A1 n1 c1, .slice A2 n2 c2] := fun x y => by
    have := Blk.new (w.alloc (.cells #[.bool x, .slice A1 n1 c1, .slice A2 n2 c2] 81)) 81 #[.bool y, .slice A1 n1 c1, .slice A2 n2 c2]
    rwa [World.size_alloc] at this
  have HKK := Lib.hid hK
  clear hB hK
  cases na with
  | true =>
    go_enter Tryz.func49, Tryz.ntmps49
    go_wp2_with fail
    refine bodyPost_ret (v := .agg #[.bool false, .slice A1 n1 c1, .slice A2 n2 c2]) ?_ ?_ ?_
    · exact res_cell (p := 2) (ty := 81) (fn := Tryz.f49) rfl _ _ (w.heap.size + 1) 81 #[.bool false, .slice A1 n1 c1, .slice A2 n2 c2] _ rfl (HKK.out false false) Tryz.underlying81 rfl frac_size
    · rfl
    exact ⟨_, rfl, HR.out _ (HBB.out _ _), HBB.out _ _⟩
  | false =>
    have hB0 : Below w.heap.size w ((w.alloc (.cells #[.bool false, .slice A1 n1 c1, .slice A2 n2 c2] 81)).alloc (.cells #[.bool false, .slice none 0 0, .slice none 0 0] 81)) := ((Below.refl w.heap.size w).alloc (Nat.le_refl _) _).alloc (by simp) _
    have HZ := Lib.hid (HO.out _ hB0)
    have ka := (Blk.new w 81 #[.bool false, .slice A1 n1 c1, .slice A2 n2 c2]).alloc (.cells #[.bool false, .slice none 0 0, .slice none 0 0] 81)
    have kr := Blk.new (w.alloc (.cells #[.bool false, .slice A1 n1 c1, .slice A2 n2 c2] 81)) 81 #[.bool false, .slice none 0 0, .slice none 0 0]
    rw [World.size_alloc] at kr
    have KA := Lib.hid ka
    have KR := Lib.hid kr
    have HB0 := Lib.hid hB0
    clear hB0 ka kr
    go_enter Tryz.func49, Tryz.ntmps49
    go_wp2_with fail
    refine HZ.out.mono ?_
    rintro e w1 ⟨rfl, rfl⟩
    cases z with
    | true =>
      go_wp2_with fail
      refine bodyPost_ret (v := .agg #[.bool false, .slice A1 n1 c1, .slice A2 n2 c2]) ?_ ?_ ?_
      · exact res_cell (p := 2) (ty := 81) (fn := Tryz.f49) rfl _ _ (w.heap.size + 1) 81 #[.bool false, .slice A1 n1 c1, .slice A2 n2 c2] _ rfl (HKK.out false false) Tryz.underlying81 rfl frac_size
      · rfl
      exact ⟨_, rfl, HR.out _ (HBB.out _ _), HBB.out _ _⟩
    | false =>
      go_wp2_with fail
      refine bodyPost_ret (v := .agg #[.bool true, .slice A1 n1 c1, .slice A2 n2 c2]) ?_ ?_ ?_
      · exact res_cell (p := 2) (ty := 81) (fn := Tryz.f49) rfl _ _ (w.heap.size + 1) 81 #[.bool true, .slice A1 n1 c1, .slice A2 n2 c2] _ rfl (HKK.out true true) Tryz.underlying81 rfl frac_size
      · rfl
      exact ⟨_, rfl, HR.out _ (HBB.out _ _), HBB.out _ _⟩

set_option maxRecDepth 100000 in
set_option maxHeartbeats 8000000 in
theorem fsub_any (w : World) (T T' : Nat → Prop) (u v : Value) (a b : Rat) (k : Nat) (hu : FR w T u a) (hv : FR w T' v b) (hsa : Sz a k) (hsb : Sz b k) (hk : k ≤ 40000) :
    Calls Tryz.prog 24 #[u, v] w fun e w' => ∃ r, e = .returned r ∧ FR w' (fun g => T g ∨ T' g ∨ w.heap.size + 2 < g) r (a - b) ∧ Below w.heap.size w w' := by
  have HA := Lib.hid hu.both
  have HB := Lib.hid hv.both
  obtain ⟨A1, n1, c1, A2, n2, c2, rfl, -, -⟩ := hu.shape
  obtain ⟨A3, n3, c3, A4, n4, c4, rfl, -, -⟩ := hv.shape
  have hsb' : Sz (-b) k := ⟨by rw [(rat_neg b).1]; exact hsb.1, by rw [(rat_neg b).2.1]; exact hsb.2⟩
  have HNG : Hid (∀ W, Below w.heap.size w W → Calls Tryz.prog 49 #[.agg #[.bool (ngN b), .slice A3 n3 c3, .slice A4 n4 c4]] W fun e w' => ∃ r, e = .returned r ∧ FR w' (fun g => T' g ∧ g < w.heap.size) r (-b) ∧ Below W.heap.size W w') := Lib.hid fun W hW => fneg_any W _ _ b (HB.out.fresh hW)
  have HAD : Hid (∀ (W : World) (y : Value), Below w.heap.size w W → FR W (fun g => T' g ∧ g < w.heap.size) y (-b) → Calls Tryz.prog 22 #[.agg #[.bool (ngN a), .slice A1 n1 c1, .slice A2 n2 c2], y] W fun e w' => ∃ r, e = .returned r ∧ FR w' (fun g => (T g ∧ g < w.heap.size) ∨ (T' g ∧ g < w.heap.size) ∨ W.heap.size + 2 < g) r (a - b) ∧ Below W.heap.size W w') := Lib.hid fun W y hW hy => by
    rw [Rat.sub_eq_add_neg]
    exact fadd_any W _ _ _ y a (-b) k (HA.out.fresh hW) hy hsa hsb' hk
  generalize ngN a = na at *
  generalize ngN b = nb at *
  generalize a - b = q at *
  clear hu hv hsa hsb hsb' hk HA HB
  have ka := ((Blk.new w 81 #[.bool na, .slice A1 n1 c1, .slice A2 n2 c2]).alloc (.cells #[.bool nb, .slice A3 n3 c3, .slice A4 n4 c4] 81)).alloc (.cells #[.bool false, .slice none 0 0, .slice none 0 0] 81)
  have kb := (Blk.new (w.alloc (.cells #[.bool na, .slice A1 n1 c1, .slice A2 n2 c2] 81)) 81 #[.bool nb, .slice A3 n3 c3, .slice A4 n4 c4]).alloc (.cells #[.bool false, .slice none 0 0, .slice none 0 0] 81)
  have kr := Blk.new ((w.alloc (.cells #[.bool na, .slice A1 n1 c1, .slice A2 n2 c2] 81)).alloc (.cells #[.bool nb, .slice A3 n3 c3, .slice A4 n4 c4] 81)) 81 #[.bool false, .slice none 0 0, .slice none 0 0]
  have hb0 := (((Below.refl w.heap.size w).alloc (Nat.le_refl _) (.cells #[.bool na, .slice A1 n1 c1, .slice A2 n2 c2] 81)).alloc (by simp) (.cells #[.bool nb, .slice A3 n3 c3, .slice A4 n4 c4] 81)).alloc (by simp; omega) (.cells #[.bool false, .slice none 0 0, .slice none 0 0] 81)
  have hz0 : (((w.alloc (.cells #[.bool na, .slice A1 n1 c1, .slice A2 n2 c2] 81)).alloc (.cells #[.bool nb, .slice A3 n3 c3, .slice A4 n4 c4] 81)).alloc (.cells #[.bool false, .slice none 0 0, .slice none 0 0] 81)).heap.size = w.heap.size + 3 := by simp
  simp only [World.size_alloc] at kb kr
  have KA := Lib.hid ka
  have KB := Lib.hid kb
  have KR := Lib.hid kr
  have HB0 := Lib.hid hb0
  clear ka kb kr hb0
  go_enter Tryz.func24, Tryz.ntmps24
  go_wp2_with fail
  generalize ((w.alloc (.cells #[.bool na, .slice A1 n1 c1, .slice A2 n2 c2] 81)).alloc (.cells #[.bool nb, .slice A3 n3 c3, .slice A4 n4 c4] 81)).alloc (.cells #[.bool false, .slice none 0 0, .slice none 0 0] 81) = W at *
  have HZ0 := Lib.hid hz0
  clear hz0
  have a0 := KA.out.cell 0
  have a1 := KA.out.cell 1
  have a2 := KA.out.cell 2
  have b0 := KB.out.cell 0
  have b1 := KB.out.cell 1
  have b2 := KB.out.cell 2
  have za := KA.out.lt
  have zb := KB.out.lt
  have zr0 : w.heap.size ≠ w.heap.size + 1 + 1 := by omega
  have zr1 : w.heap.size + 1 ≠ w.heap.size + 1 + 1 := by omega
  simp only [List.getElem?_toArray, List.getElem?_cons_zero, List.getElem?_cons_succ] at a0 a1 a2 b0 b1 b2
  go_region_held3 (fun w' => w'.cell? ⟨w.heap.size, 0, none⟩ = some (.bool na) ∧ w'.cell? ⟨w.heap.size, 1, none⟩ = some (.slice A1 n1 c1) ∧ w'.cell? ⟨w.heap.size, 2, none⟩ = some (.slice A2 n2 c2) ∧ w'.cell? ⟨w.heap.size + 1, 0, none⟩ = some (.bool nb) ∧ w'.cell? ⟨w.heap.size + 1, 1, none⟩ = some (.slice A3 n3 c3) ∧ w'.cell? ⟨w.heap.size + 1, 2, none⟩ = some (.slice A4 n4 c4)) (first | (go_keep; done) | exact ⟨(be _ _ za).trans a0, (be _ _ za).trans a1, (be _ _ za).trans a2, (be _ _ zb).trans b0, (be _ _ zb).trans b1, (be _ _ zb).trans b2⟩ | exact ⟨(bc _ _ za).trans a0, (bc _ _ za).trans a1, (bc _ _ za).trans a2, (bc _ _ zb).trans b0, (bc _ _ zb).trans b1, (bc _ _ zb).trans b2⟩ | exact ⟨(far3 _ _ _ _ _ _ _ zr0).trans s0, (far3 _ _ _ _ _ _ _ zr0).trans s1, (far3 _ _ _ _ _ _ _ zr0).trans s2, (far3 _ _ _ _ _ _ _ zr1).trans s3, (far3 _ _ _ _ _ _ _ zr1).trans s4, (far3 _ _ _ _ _ _ _ zr1).trans s5⟩) ((first
    | (go_at_call 49; refine (HNG.out _ HB0.out.drew).mono ?_; rintro e w1 ⟨r1, rfl, hr1, hb1⟩; replace hb1 := below_start hb1; have bc := (bcell hb1).1)
    | (go_at_call 22; refine (HAD.out _ _ (HB0.out.trans (hb1.mono HB0.out.size)) hr1).mono ?_; rintro e w3 ⟨r3, rfl, hr3, hb3⟩; have be : ∀ (b o : Nat), b < W.heap.size → w3.cell? ⟨b, o, none⟩ = W.cell? ⟨b, o, none⟩ := fun b o h => ((bcell hb3).1 b o (Nat.lt_of_lt_of_le h hb1.size)).trans (bc b o h)
       have hsh := hr3.shape
       obtain ⟨D1, m1, d1, D2, m2, d2, rfl, -, -⟩ := hsh
       have KR3 := (KR.out.below hb1 KR.out.lt).below hb3 (KR.out.below hb1 KR.out.lt).lt
       have s0 := (be _ _ za).trans a0
       have s1 := (be _ _ za).trans a1
       have s2 := (be _ _ za).trans a2
       have s3 := (be _ _ zb).trans b0
       have s4 := (be _ _ zb).trans b1
       have s5 := (be _ _ zb).trans b2
       have e0 := KR3.cell 0
       have e1 := KR3.cell 1
       have e2 := KR3.cell 2
       have f0 := KR3.frozen 0
       have f1 := KR3.frozen 1
       have f2 := KR3.frozen 2
       simp only [List.getElem?_toArray, List.getElem?_cons_zero, List.getElem?_cons_succ] at e0 e1 e2)))
  have KR4 := Lib.hid KR3
  have HB4 : Hid (Below w.heap.size w w3) := Lib.hid (HB0.out.trans ((hb1.mono HB0.out.size).trans (hb3.mono (Nat.le_trans HB0.out.size hb1.size))))
  have HR4 := Lib.hid hr3
  have HZ2 : Hid (W.heap.size ≤ w1.heap.size) := Lib.hid hb1.size
  clear hb1 hb3 hr1 hr3 bc be a0 a1 a2 b0 b1 b2 za zb s0 s1 s2 s3 s4 s5 e0 e1 e2 f0 f1 f2 KR3
  go_wp2_with fail
  refine bodyPost_ret (v := .agg #[.bool (ngN q), .slice D1 m1 d1, .slice D2 m2 d2]) ?_ ?_ ?_
  · exact res_cell (p := 4) (ty := 81) (fn := Tryz.f24) rfl _ _ (w.heap.size + 1 + 1) 81 #[.bool (ngN q), .slice D1 m1 d1, .slice D2 m2 d2] _ rfl (blk3' w3 _ 81 _ _ _ _ _ _ KR4.out) Tryz.underlying81 rfl frac_size
  · rfl
  refine ⟨_, rfl, ?_, ((Keeps.of_below HB4.out (fun _ => False)).trans (keeps3' w3 (w.heap.size + 1 + 1) _ _ _) (fun i hi h => by omega)).to_below⟩
  have h5 := HR4.out.keeps (keeps3' w3 (w.heap.size + 1 + 1) (.bool (ngN q)) (.slice D1 m1 d1) (.slice D2 m2 d2)) (fun i hi e => by have := HZ0.out; have := HZ2.out; rcases hi with ⟨_, h⟩ | ⟨_, h⟩ | h <;> omega)
  exact h5.more (fun g _ hi => match hi with
    | Or.inl h => Or.inl h.1
    | Or.inr (Or.inl h) => Or.inr (Or.inl h.1)
    | Or.inr (Or.inr h) => Or.inr (Or.inr (by have := HZ0.out; have := HZ2.out; omega)))
end Go.Proofs.YtempdomhbfokmaaGreatDoor

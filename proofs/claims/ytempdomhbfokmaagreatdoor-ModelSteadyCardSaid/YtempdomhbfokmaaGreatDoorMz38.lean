/- nat: Add, Cmp, Sub. nat: Cmp, Sub. nat: Sub, scaled, short. nat: scaled, short. nat: Mul. nat: less, more. nat: more. nat: digit. -/
import Derived.Test.YtempdomhbfokmaaGreatDoorMz37
import Derived.Deep.DeepCutAuto
import Derived.Deep.CutBlock
import Derived.BigQuiet
namespace Go.Proofs.YtempdomhbfokmaaGreatDoor
open Go.RowKit

theorem add_nrm0 (la lb out : List Nat) (hd : digs out) (hn : Nrm la) (hl : out.length = la.length) (h : val out + BB ^ la.length * 0 = val la + val lb) : Nrm out := by
  by_cases h0 : 0 < la.length
  · refine nrm_of_le out hd ?_
    have := pow_le_val la hn h0
    rw [hl]
    omega
  · intro h1; omega
theorem nrm_snoc (out : List Nat) (d : Nat) (hd : d ≠ 0) : Nrm (out ++ [d]) := by
  intro h
  have e : (out ++ [d])[(out ++ [d]).length - 1] = d := by simp
  rw [e]; exact hd
theorem wrap_add32 (x y s : Nat) (h : x + y = s) (hs : s < 4294967296) : IntKind.u32.wrap ((x : Int) + (y : Int)) = (s : Int) := by
  rw [← Int.natCast_add, h]; exact u32_wrap _ (by omega) (by omega)

/-- what a division by the base leaves of s -/
theorem base_div (s : Nat) (hs : s < 18446744073709551616) : (s : Int).tdiv 1000000000 = ((s / 1000000000 : Nat) : Int) ∧ (s : Int).tmod 1000000000 = ((s % 1000000000 : Nat) : Int) := by
  constructor
  · rw [Int.tdiv_eq_ediv_of_nonneg (by omega)]; rfl
  · rw [Int.tmod_eq_emod_of_nonneg (by omega)]; rfl

set_option maxRecDepth 100000 in
set_option maxHeartbeats 4000000 in
theorem add_any (w : World) (T T' : Nat → Prop) (u v : Value) (a b : Nat) (hu : NatR w T u a) (hv : NatR w T' v b) (hla : (ofN a).length ≤ 100000) (hlb : (ofN b).length ≤ 100000) :
    Calls Tryz.prog 46 #[u, v] w fun e w' => ∃ r, e = .returned r ∧ NatR w' (fun g => w.heap.size ≤ g) r (a + b) ∧ Below w.heap.size w w' := by
  obtain ⟨i0, hi0, hz0, hz1, hz2⟩ := info_parts u32_info
  obtain ⟨A1, c1, rfl, hr1, l1, m1, -⟩ := hu.old
  obtain ⟨A2, c2, rfl, hr2, l2, m2, -⟩ := hv.old
  have HR1 := Lib.hid hr1
  have HR2 := Lib.hid hr2
  have HA := Lib.hid (val_ofN a)
  have HB := Lib.hid (val_ofN b)
  have HDA := Lib.hid (digs_ofN a)
  have HDB := Lib.hid (digs_ofN b)
  have HNA := Lib.hid (nrm_ofN a)
  have HNB := Lib.hid (nrm_ofN b)
  generalize ofN a = la0 at *
  generalize ofN b = lb0 at *
  clear hu hv hr1 hr2
  go_enter Tryz.func46, Tryz.ntmps46
  go_upto_if 13 with (fail)
  go_cut [0, 1] (fun uv vv wc => wc = w ∧ ∃ (la lb : List Nat) (A B : Option Addr) (ca cb : Nat), uv = .slice A la.length ca ∧ vv = .slice B lb.length cb ∧ lb.length ≤ la.length ∧ la.length ≤ 100000 ∧ la.length ≤ ca ∧ ca ≤ maxLen ∧ lb.length ≤ cb ∧ cb ≤ maxLen ∧ Hid (Reads w (· < w.heap.size) 1 A la.length (ns la)) ∧ Hid (Reads w (· < w.heap.size) 1 B lb.length (ns lb)) ∧ Hid (val la + val lb = a + b) ∧ Hid (digs la) ∧ Hid (digs lb) ∧ Hid (Nrm la))
  case first =>
    by_cases h : la0.length < lb0.length
    · have h' : (la0.length : Int) < lb0.length := by omega
      go_wp2_with fail
      go_meet
      exact ⟨rfl, lb0, la0, A2, A1, c2, c1, rfl, rfl, by omega, by omega, l2, m2, l1, m1, HR2, HR1, (by show val lb0 + val la0 = a + b; rw [HA.out, HB.out, Nat.add_comm]), HDB, HDA, HNB⟩
    · have h' : ¬ (la0.length : Int) < lb0.length := by omega
      go_wp2_with fail
      go_meet
      exact ⟨rfl, la0, lb0, A1, A2, c1, c2, rfl, rfl, by omega, by omega, l1, m1, l2, m2, HR1, HR2, (by show val la0 + val lb0 = a + b; rw [HA.out, HB.out]), HDA, HDB, HNA⟩
  obtain ⟨rfl, la, lb, A, B, ca, cb, rfl, rfl, hle, hl5, q1, q2, q3, q4, HRA, HRB, HS, HDLA, HDLB, HNLA⟩ := hcut
  clear HR1 HR2 HA HB HDA HDB HNA HNB l1 m1 l2 m2 hla hlb
  go_upto_region 4 with (at_make; refine wpList_make_own _ rfl _ _ 79 rfl 0 109 i0 _ 1 Tryz.underlying79 hi0 hz0 hz1 .i64 .i64 _ (la.length + 1) rfl rfl (by go_num) (by rw [hz2]; omega) (by unfold maxLen; omega) (Nat.zero_le _) ?_; intro w1 hown0 hgr)
  have hown : Own w1 (fun q => wc.heap.size ≤ q) 109 1 (.slice (some ⟨wc.heap.size, 0, none⟩) 0 (la.length + 1)) 0 (ns []) := ⟨hown0, fun q hq => by simp [Value.ownBlock] at hq; omega⟩
  have hb1 : Below wc.heap.size wc w1 := (Below.refl wc.heap.size wc).grown hgr (Nat.le_refl _) (fun k e => by cases e)
  have HO := Lib.hid hown
  have HB1 := Lib.hid hb1
  clear hown hb1 hown0 hgr
  go_wp2_with fail
  go_loopw [5, 6, 22] (fun ov cv i wr => ∃ (k cy : Nat) (out : List Nat), cv = .int .u32 cy ∧ i = .int .i64 k ∧ k ≤ la.length ∧ Hid (cy ≤ 1) ∧ Hid (out.length = k) ∧ Hid (digs out) ∧ Hid (val out + BB ^ k * cy = val (la.take k) + val (lb.take k)) ∧ Own wr (fun q => wc.heap.size ≤ q) 109 1 ov k (ns out) ∧ Below wc.heap.size wc wr) (fun _ _ i _ => la.length - (intOf i).toNat)
  case atStart => exact ⟨0, 0, [], rfl, rfl, by omega, Lib.hid (Nat.zero_le _), Lib.hid rfl, Lib.hid digs_nil, Lib.hid (by simp [val]), HO.out, HB1.out⟩
  obtain ⟨k, cy, out, rfl, rfl, hk, HC, HK, HD, HV, ho, hb⟩ := hrel
  by_cases hlt : k < la.length
  · have hra := (HRA.out.keep hb.size fun p _ ht => hb.cell ht)
    have hrb := (HRB.out.keep hb.size fun p _ ht => hb.cell ht)
    obtain ⟨ad, x0, rfl, -, -, hx0, hca⟩ := hra.at_ hlt
    rw [ns_get la k hlt] at hx0
    injection hx0 with hx0
    subst hx0
    have hxl := digs_get HDLA.out k hlt
    have HXG : Hid (la.getD k 0 = la[k]) := Lib.hid (by simp [List.getD, hlt])
    obtain ⟨x, hx⟩ : ∃ x, x = la[k] := ⟨_, rfl⟩
    rw [← hx] at hca HXG hxl
    have hcy := HC.out
    have hk1 : (k : Int) < la.length := by omega
    unfold BB at hxl
    have fin : ∀ (s1 s y : Nat), s1 = x + cy → s = s1 + y → y < 1000000000 → Hid (lb.getD k 0 = y) → s / 1000000000 ≤ 1 ∧ s < 4294967296 ∧ s1 < 4294967296 ∧ Hid (digs (out ++ [s % 1000000000])) ∧ Hid (val (out ++ [s % 1000000000]) + BB ^ (k + 1) * (s / 1000000000) = val (la.take (k + 1)) + val (lb.take (k + 1))) := by
      intro s1 s y h1 h2 h3 h4
      refine ⟨by omega, by omega, by omega, ?_, ?_⟩
      · exact digs_app.2 ⟨HD.out, by intro z hz; rw [List.mem_singleton] at hz; rw [hz]; exact Nat.mod_lt _ (by decide)⟩
      · exact add_step la lb out k cy s HK.out (by rw [HXG.out, h4.out]; omega) HV.out
    clear hx hra hrb
    by_cases hlt2 : k < lb.length
    · have hrb := (HRB.out.keep hb.size fun p _ ht => hb.cell ht)
      obtain ⟨bd, y0, rfl, -, -, hy0, hcb⟩ := hrb.at_ hlt2
      rw [ns_get lb k hlt2] at hy0
      injection hy0 with hy0
      subst hy0
      have hyl := digs_get HDLB.out k hlt2
      have HYG : Hid (lb.getD k 0 = lb[k]) := Lib.hid (by simp [List.getD, hlt2])
      obtain ⟨y, hy⟩ : ∃ y, y = lb[k] := ⟨_, rfl⟩
      rw [← hy] at hcb HYG hyl
      obtain ⟨s1, hs1⟩ : ∃ s1, s1 = x + cy := ⟨_, rfl⟩
      obtain ⟨s, hs⟩ : ∃ s, s = s1 + y := ⟨_, rfl⟩
      obtain ⟨f1, f2, f3, F4, F5⟩ := fin s1 s y hs1 hs hyl HYG
      have e1 := wrap_add32 x cy s1 hs1.symm f3
      have e2 := wrap_add32 s1 y s hs.symm f2
      obtain ⟨e3, e4⟩ := base_div s (by omega)
      obtain ⟨q, hq⟩ : ∃ q, q = s / 1000000000 := ⟨_, rfl⟩
      obtain ⟨r, hr⟩ : ∃ r, r = s % 1000000000 := ⟨_, rfl⟩
      rw [← hq] at f1 F5 e3
      rw [← hr] at F4 F5 e4
      have e5 : IntKind.u32.wrap (q : Int) = q := u32_wrap _ (by omega) (by omega)
      have e6 : IntKind.u32.wrap (r : Int) = r := u32_wrap _ (by omega) (by omega)
      have hk2 : (k : Int) < lb.length := by omega
      clear hy hs1 hs hq hr fin hyl hxl f2 f3 hrb hcy
      go_wp2_with (at_builtin; go_must (refine wpList_append_any _ rfl _ _ 79 rfl 109 i0 _ 1 4 Tryz.underlying79 hi0 hz0 hz1 hz2 rfl (by omega) u5 k _ rfl (ho.alloc _) _ 1 1 _ rfl (lit_readsN _ _ [.int .u32 r] 1 rfl) (by intro u hu; simp at hu; rw [hu]; rfl) (by unfold maxLen; omega) (by omega) ?_); intro v' w3 happ)
      have hbz := hb.size
      obtain ⟨o3, b3⟩ := appBelow happ (B := wc.heap.size) (by simp; omega) (fun g hg => ho.2 g hg)
      go_roundw
      case rel => exact ⟨k + 1, q, out ++ [r], rfl, by go_num, by omega, f1, (by show _ = _; rw [List.length_append, HK.out]; rfl), F4, F5, by rw [ns_app]; exact o3, (hb.alloc (by omega) _).trans b3⟩
      case measure => simp [intOf]; omega
    · have HYG : Hid (lb.getD k 0 = 0) := Lib.hid (by simp [List.getD, List.getElem?_eq_none (show lb.length ≤ k by omega)])
      obtain ⟨s, hs⟩ : ∃ s, s = x + cy := ⟨_, rfl⟩
      obtain ⟨f1, f2, f3, F4, F5⟩ := fin s s 0 hs rfl (by omega) HYG
      have e1 := wrap_add32 x cy s hs.symm f3
      obtain ⟨e3, e4⟩ := base_div s (by omega)
      obtain ⟨q, hq⟩ : ∃ q, q = s / 1000000000 := ⟨_, rfl⟩
      obtain ⟨r, hr⟩ : ∃ r, r = s % 1000000000 := ⟨_, rfl⟩
      rw [← hq] at f1 F5 e3
      rw [← hr] at F4 F5 e4
      have e5 : IntKind.u32.wrap (q : Int) = q := u32_wrap _ (by omega) (by omega)
      have e6 : IntKind.u32.wrap (r : Int) = r := u32_wrap _ (by omega) (by omega)
      have hk2 : ¬ (k : Int) < lb.length := by omega
      clear hs hq hr fin hxl f2 f3 hcy hlt2
      go_wp2_with (at_builtin; go_must (refine wpList_append_any _ rfl _ _ 79 rfl 109 i0 _ 1 4 Tryz.underlying79 hi0 hz0 hz1 hz2 rfl (by omega) u5 k _ rfl (ho.alloc _) _ 1 1 _ rfl (lit_readsN _ _ [.int .u32 r] 1 rfl) (by intro u hu; simp at hu; rw [hu]; rfl) (by unfold maxLen; omega) (by omega) ?_); intro v' w3 happ)
      have hbz := hb.size
      obtain ⟨o3, b3⟩ := appBelow happ (B := wc.heap.size) (by simp; omega) (fun g hg => ho.2 g hg)
      go_roundw
      case rel => exact ⟨k + 1, q, out ++ [r], rfl, by go_num, by omega, f1, (by show _ = _; rw [List.length_append, HK.out]; rfl), F4, F5, by rw [ns_app]; exact o3, (hb.alloc (by omega) _).trans b3⟩
      case measure => simp [intOf]; omega
  · obtain rfl : k = la.length := by omega
    have hV := HV.out
    rw [List.take_of_length_le (Nat.le_refl _), List.take_of_length_le hle, HS.out] at hV
    have HV2 := Lib.hid hV
    have HO2 := Lib.hid ho
    have HB2 := Lib.hid hb
    have hcy := HC.out
    clear ho hb hV
    by_cases h0 : cy = 0
    · subst h0
      go_wp2_with fail
      go_ret
      refine ⟨_, rfl, ?_, HB2.out⟩
      have hv2 := HV2.out
      have e : out = ofN (a + b) := by
        rw [← hv2, Nat.mul_zero, Nat.add_zero]
        exact eq_ofN out HD.out (add_nrm0 la lb out HD.out HNLA.out HK.out (by rw [hv2, HS.out]))
      unfold NatR
      rw [← e]
      exact HO2.out.dig
    · obtain rfl : cy = 1 := by omega
      go_wp2_with (at_builtin; go_must (refine wpList_append_any _ rfl _ _ 79 rfl 109 i0 _ 1 4 Tryz.underlying79 hi0 hz0 hz1 hz2 rfl (by omega) u5 la.length _ rfl (HO2.out.alloc _) _ 1 1 _ rfl (lit_readsN _ _ [.int .u32 1] 1 rfl) (by intro u hu; simp at hu; rw [hu]; rfl) (by unfold maxLen; omega) (by omega) ?_); intro v' w3 happ)
      have hbz := HB2.out.size
      obtain ⟨o3, b3⟩ := appBelow happ (B := wc.heap.size) (by simp; omega) (fun g hg => HO2.out.2 g hg)
      have O3 := Lib.hid o3
      have B3 := Lib.hid ((HB2.out.alloc (by omega) _).trans b3)
      clear happ o3 b3
      go_wp2_with fail
      go_ret
      refine ⟨_, rfl, ?_, B3.out⟩
      have e : out ++ [1] = ofN (a + b) := by
        rw [← HV2.out, ← HK.out, ← val_snoc]
        exact eq_ofN _ (digs_app.2 ⟨HD.out, by intro z hz; rw [List.mem_singleton] at hz; rw [hz]; decide⟩) (nrm_snoc out 1 (by decide))
      unfold NatR
      rw [← e]
      refine Own.dig (m := la.length + 1) ?_
      rw [ns_app]
      exact O3.out
end Go.Proofs.YtempdomhbfokmaaGreatDoor

namespace Go.Proofs.YtempdomhbfokmaaGreatDoor
open Go.RowKit

def cmpF (a b : Nat) : Int := if a < b then -1 else if b < a then 1 else 0
set_option maxRecDepth 100000 in
theorem cmpInt_any (w : World) (a b : Nat) : Calls Tryz.prog 78 #[.int .i64 a, .int .i64 b] w fun e w' => e = .returned (.int .i64 (cmpF a b)) ∧ w = w' := by
  unfold cmpF
  by_cases h : a < b
  · rw [if_pos h]
    have h1 : (a : Int) < b := by omega
    clear h
    go_enter Tryz.func78, Tryz.ntmps78
    go_wp2_with fail
    go_ret
    exact ⟨rfl, rfl⟩
  · rw [if_neg h]
    by_cases h2 : b < a
    · rw [if_pos h2]
      have h1 : ¬ (a : Int) < b := by omega
      have h3 : (b : Int) < a := by omega
      clear h h2
      go_enter Tryz.func78, Tryz.ntmps78
      go_wp2_with fail
      go_ret
      exact ⟨rfl, rfl⟩
    · rw [if_neg h2]
      have h1 : ¬ (a : Int) < b := by omega
      have h3 : ¬ (b : Int) < a := by omega
      clear h h2
      go_enter Tryz.func78, Tryz.ntmps78
      go_wp2_with fail
      go_ret
      exact ⟨rfl, rfl⟩
theorem cmpF_len (a b : Nat) (h : (ofN a).length ≠ (ofN b).length) : cmpF (ofN a).length (ofN b).length = cmpF a b := by
  unfold cmpF
  have h1 := ofN_length_mono a b
  have h2 := ofN_length_mono b a
  by_cases e : a < b
  · rw [if_pos e, if_pos (by omega)]
  · rw [if_neg e, if_neg (by omega)]
    by_cases e2 : b < a
    · rw [if_pos e2, if_pos (by omega)]
    · obtain rfl : a = b := by omega
      exact absurd rfl h
theorem cmpF_digit (la lb : List Nat) (i : Nat) (ha : digs la) (hb : digs lb) (h1 : i < la.length) (h2 : i < lb.length) (ht : la.drop (i + 1) = lb.drop (i + 1)) (hne : la[i] ≠ lb[i]) : cmpF la[i] lb[i] = cmpF (val la) (val lb) := by
  unfold cmpF
  by_cases e : la[i] < lb[i]
  · rw [if_pos e, if_pos (lt_of_digit la lb i ha h1 h2 ht e)]
  · have e2 : lb[i] < la[i] := by omega
    have := lt_of_digit lb la i hb h2 h1 ht.symm e2
    rw [if_neg e, if_pos e2, if_neg (by omega), if_pos this]

set_option maxRecDepth 100000 in
set_option maxHeartbeats 4000000 in
theorem cmp_any (w : World) (T T' : Nat → Prop) (u v : Value) (a b : Nat) (hu : NatR w T u a) (hv : NatR w T' v b) :
    Calls Tryz.prog 47 #[u, v] w fun e w' => e = .returned (.int .i64 (cmpF a b)) ∧ ∃ k, w' = w.drewN k := by
  obtain ⟨A1, c1, rfl, hr1, l1, m1, -⟩ := hu
  obtain ⟨A2, c2, rfl, hr2, l2, m2, -⟩ := hv
  have HR1 := Lib.hid hr1
  have HR2 := Lib.hid hr2
  have HL := Lib.hid (cmpF_len a b)
  have HA := Lib.hid (val_ofN a)
  have HB := Lib.hid (val_ofN b)
  have HDA := Lib.hid (digs_ofN a)
  have HDB := Lib.hid (digs_ofN b)
  generalize ofN a = la at *
  generalize ofN b = lb at *
  clear hr1 hr2
  by_cases hne : la.length = lb.length
  · have hne1 : ((la.length : Int) != (lb.length : Int)) = false := by simp [hne]
    have hlm : wrap64 ((la.length : Int) - 1) = (la.length : Int) - 1 := IntWalk.wrap64_in _ ⟨by omega, by unfold maxLen at m1; omega⟩
    have HLN := Lib.hid hne
    clear hne
    go_enter Tryz.func47, Tryz.ntmps47
    go_wp2_with fail
    go_loopw [5] (fun i wr => ∃ k n : Nat, i = .int .i64 ((k : Int) - 1) ∧ k ≤ la.length ∧ wr = w.drewN n ∧ Hid (la.drop k = lb.drop k)) (fun i _ => (intOf i + 1).toNat)
    case atStart => exact ⟨la.length, 0, by go_num, Nat.le_refl _, rfl, Lib.hid (by rw [List.drop_of_length_le (Nat.le_refl _), List.drop_of_length_le (by rw [HLN.out]; exact Nat.le_refl _)])⟩
    obtain ⟨k, n, rfl, hk, rfl, HT⟩ := hrel
    by_cases hk0 : k = 0
    · subst hk0
      have HE : Hid (cmpF a b = 0) := Lib.hid (by
        have e := HT.out
        rw [List.drop_zero, List.drop_zero] at e
        rw [← HA.out, ← HB.out, e]
        unfold cmpF; simp)
      go_wp2_with fail
      go_ret
      exact ⟨by rw [HE.out]; rfl, n, rfl⟩
    · obtain ⟨m, rfl⟩ : ∃ m, k = m + 1 := ⟨k - 1, by omega⟩
      have i1 : ((m + 1 : Nat) : Int) - 1 = m := by omega
      rw [i1]
      have hlt1 : m < la.length := by omega
      have hlt2 : m < lb.length := by have := HLN.out; omega
      obtain ⟨ad, x0, rfl, -, -, hx0, hca⟩ := HR1.out.at_ hlt1
      obtain ⟨bd, y0, rfl, -, -, hy0, hcb⟩ := HR2.out.at_ hlt2
      rw [ns_get la m hlt1] at hx0
      injection hx0 with hx0
      subst hx0
      rw [ns_get lb m hlt2] at hy0
      injection hy0 with hy0
      subst hy0
      have HXL := Lib.hid (digs_get HDA.out m hlt1)
      have HYL := Lib.hid (digs_get HDB.out m hlt2)
      have HCM := Lib.hid (cmpF_digit la lb m HDA.out HDB.out hlt1 hlt2 HT.out)
      have HDR : Hid (la[m] = lb[m] → la.drop m = lb.drop m) := Lib.hid fun e => by rw [List.drop_eq_getElem_cons hlt1, List.drop_eq_getElem_cons hlt2, HT.out, e]
      rw [HA.out, HB.out] at HCM
      generalize la[m] = x at *
      generalize lb[m] = y at *
      have hmw : wrap64 ((m : Int) - 1) = (m : Int) - 1 := IntWalk.wrap64_in _ ⟨by omega, by unfold maxLen at m1; omega⟩
      have j1 : (m : Int) < la.length := by omega
      have j2 : (m : Int) < lb.length := by omega
      have hca' : (w.drewN n).cell? (ad.add m) = some (Value.int .u32 x) := hca
      have hcb' : (w.drewN n).cell? (bd.add m) = some (Value.int .u32 y) := hcb
      have hx2 : IntKind.i64.wrap (x : Int) = x := IntWalk.i64_in _ ⟨by omega, by have := HXL.out; unfold BB at this; omega⟩
      have hy2 : IntKind.i64.wrap (y : Int) = y := IntWalk.i64_in _ ⟨by omega, by have := HYL.out; unfold BB at this; omega⟩
      clear hk0 i1
      by_cases hxy : x = y
      · have hb1 : ((x : Int) != (y : Int)) = false := by simp [hxy]
        have HXY := Lib.hid hxy
        clear hxy
        go_wp2_with fail
        go_quiet (fail)
        go_wp2_with fail
        go_roundw
        case rel => exact ⟨m, n + nq, by go_num, by omega, rfl, HDR.out HXY.out⟩
        case measure => simp [intOf, hmw]
      · have hb1 : ((x : Int) != (y : Int)) = true := by simp; omega
        have HCX := Lib.hid (HCM.out hxy)
        clear hxy HCM
        go_wp2_with fail
        go_quiet (fail)
        go_wp2_with fail
        go_quiet ((go_at_call 78; exact quiet_add_left (cmpInt_any _ _ _)))
        go_wp2_with fail
        go_ret
        exact ⟨by rw [HCX.out]; rfl, _, by rw [World.drewN_drewN, World.drewN_drewN]⟩
  · have hne1 : ((la.length : Int) != (lb.length : Int)) = true := by simp; omega
    have HC := Lib.hid (HL.out hne)
    clear hne HL
    go_enter Tryz.func47, Tryz.ntmps47
    go_wp2_with fail
    refine (cmpInt_any _ _ _).mono ?_
    rintro e w' ⟨rfl, rfl⟩
    go_wp2_with fail
    go_ret
    exact ⟨by rw [HC.out]; rfl, 0, rfl⟩
end Go.Proofs.YtempdomhbfokmaaGreatDoor

namespace Go.Proofs.YtempdomhbfokmaaGreatDoor
open Go.RowKit

/-- 'make(Nat, n)' at the operation. -/
theorem wpList_make_nat (w : World) {ops : Array Oper} {rest : List Oper} {o : Oper} {a : Act} {Q : Exit → Act → World → Prop} (hg : o.guard = none) (l c : Operand) (hop : o.op = Op.makeSlice 79 l c)
    (L C : Int) (n : Nat) (hl : a.eval l = .int .i64 L) (hc : a.eval c = .int .i64 C) (hL : L = (n : Int)) (hC : C = (n : Int)) (hn : n ≤ 10000000)
    (hK : ∀ w', Own w' (fun g => g = w.heap.size) 109 1 (.slice (some ⟨w.heap.size, 0, none⟩) n n) n (ns (List.replicate n 0)) → Below w.heap.size w w' → w.heap.size < w'.heap.size → wpList Tryz.prog ops Q rest (a.put o.dst (.slice (some ⟨w.heap.size, 0, none⟩) n n)) w') :
    wpList Tryz.prog ops Q (o :: rest) a w := by
  obtain ⟨i0, hi, hz0, hz1, hz2⟩ := info_parts u32_info
  refine wpList_make_full w hg l c 79 hop 0 109 i0 (.int .u32 0) 1 Tryz.underlying79 hi hz0 hz1 .i64 .i64 L C n hl hc hL hC (by rw [hz2]; omega) (by unfold maxLen; omega) (Nat.zero_le _) ?_
  intro w' hown hg1
  have hx : (madeCells (Value.int .u32 0).cells (n * 1)).toList = List.replicate n (.int .u32 0) := by
    apply List.ext_getElem
    · simp [madeCells]
    · intro i h1 h2
      simp [madeCells, Value.cells, Nat.mod_one]
  rw [hx, ← ns_zeros] at hown
  refine hK w' ⟨hown, fun g hg => by simp [Value.ownBlock] at hg; exact hg.symm⟩ ⟨hg1.os, hg1.tape, hg1.output, hg1.size, fun k hk => hg1.block k hk (by simp)⟩ ?_
  exact (hown.lt _ rfl).2

theorem Own.getN {w : World} {T : Nat → Prop} {g n cap : Nat} {l : List Nat} (h : Own w T 109 1 (.slice (some ⟨g, 0, none⟩) n cap) n (ns l)) (j : Nat) (hj : j < n) (hl : l.length = n) : w.cell? ⟨g, j, none⟩ = some (.int .u32 (l[j]'(by omega) : Int)) := by
  rw [h.get j hj, ns_get l j (by omega)]
theorem Own.setN {w : World} {T : Nat → Prop} {g n cap : Nat} {l : List Nat} (h : Own w T 109 1 (.slice (some ⟨g, 0, none⟩) n cap) n (ns l)) (j d : Nat) (hj : j < n) : Own (w.setCell ⟨g, j, none⟩ (.int .u32 (d : Int))) T 109 1 (.slice (some ⟨g, 0, none⟩) n cap) n (ns (l.set j d)) := by
  rw [← ns_set]; exact h.set j hj _
theorem getD_of_lt {l : List Nat} {k : Nat} (h : k < l.length) : l.getD k 0 = l[k] := by simp [List.getD, h]
theorem getD_of_ge {l : List Nat} {k : Nat} (h : l.length ≤ k) : l.getD k 0 = 0 := by simp [List.getD, List.getElem?_eq_none h]
theorem keeps_set {w wr : World} {g k : Nat} {B : Nat} (h : Below B w wr) (hg : B ≤ g) (u : Value) : Below B w (wr.setCell ⟨g, k, none⟩ u) := h.setCell (p := ⟨g, k, none⟩) hg u

set_option maxRecDepth 100000 in
set_option maxHeartbeats 4000000 in
theorem sub_any (w : World) (T T' : Nat → Prop) (u v : Value) (a b : Nat) (hu : NatR w T u a) (hv : NatR w T' v b) (hla : (ofN a).length ≤ 100000) (hle : b ≤ a) :
    Calls Tryz.prog 48 #[u, v] w fun e w' => ∃ r, e = .returned r ∧ NatR w' (fun g => w.heap.size ≤ g) r (a - b) ∧ Below w.heap.size w w' := by
  obtain ⟨A1, c1, rfl, hr1, l1, m1, -⟩ := hu.old
  obtain ⟨A2, c2, rfl, hr2, l2, m2, -⟩ := hv.old
  have HLB := Lib.hid (ofN_length_mono b a hle)
  have HR1 := Lib.hid hr1
  have HR2 := Lib.hid hr2
  have HA := Lib.hid (val_ofN a)
  have HB := Lib.hid (val_ofN b)
  have HDA := Lib.hid (digs_ofN a)
  have HDB := Lib.hid (digs_ofN b)
  generalize ofN a = la at *
  generalize ofN b = lb at *
  clear hu hv hr1 hr2
  go_enter Tryz.func48, Tryz.ntmps48
  go_upto_region 2 with (at_make; refine wpList_make_nat _ rfl _ _ rfl _ _ la.length rfl rfl rfl rfl (by omega) ?_; intro w1 hown hb1 hz1)
  obtain ⟨g, hg⟩ : ∃ g, g = w.heap.size := ⟨_, rfl⟩
  rw [← hg] at hown
  rw [← hg]
  have HG := Lib.hid hg
  have HO := Lib.hid hown
  have HB1 := Lib.hid hb1
  have HZ1 := Lib.hid hz1
  clear hown hb1 hg hz1
  go_wp2_with fail
  go_loopw [6, 15] (fun cv i wr => ∃ (k bw : Nat) (out : List Nat), cv = .int .u32 bw ∧ i = .int .i64 k ∧ k ≤ la.length ∧ bw ≤ 1 ∧ Hid (out.length = la.length) ∧ Hid (digs out) ∧ Hid (val (la.take k) + BB ^ k * bw = val (out.take k) + val (lb.take k)) ∧ Own wr (fun q => q = g) 109 1 (.slice (some ⟨g, 0, none⟩) la.length la.length) la.length (ns out) ∧ Below w.heap.size w wr) (fun _ i _ => la.length - (intOf i).toNat)
  case atStart => exact ⟨0, 0, List.replicate la.length 0, rfl, rfl, by omega, by omega, Lib.hid (by simp), Lib.hid (digs_zeros _), Lib.hid (by simp [val]), HO.out, HB1.out⟩
  obtain ⟨k, bw, out, rfl, rfl, hk, hbw, HK, HD, HV, ho, hb⟩ := hrel
  by_cases hlt : k < la.length
  · have hra := (HR1.out.keep hb.size fun p _ ht => hb.cell ht)
    obtain ⟨ad, x0, rfl, -, -, hx0, hca⟩ := hra.at_ hlt
    rw [ns_get la k hlt] at hx0
    injection hx0 with hx0
    subst hx0
    have hxl := digs_get HDA.out k hlt
    have HXG : Hid (la.getD k 0 = la[k]) := Lib.hid (getD_of_lt hlt)
    obtain ⟨x, hx⟩ : ∃ x, x = la[k] := ⟨_, rfl⟩
    rw [← hx] at hca HXG hxl
    have hcg := ho.getN k hlt HK.out
    have hfg := ho.unfrozen k
    have HO3 := Lib.hid ho
    have HB3 := Lib.hid hb
    have hk1 : (k : Int) < la.length := by omega
    unfold BB at hxl
    have hkl : k < out.length := by rw [HK.out]; exact hlt
    have fin : ∀ (y d bw' : Nat), Hid (lb.getD k 0 = y) → x + 1000000000 * bw' = d + (bw + y) → d < 1000000000 → Hid (digs (out.set k d)) ∧ Hid ((out.set k d).length = la.length) ∧ Hid (val (la.take (k + 1)) + BB ^ (k + 1) * bw' = val ((out.set k d).take (k + 1)) + val (lb.take (k + 1))) := by
      intro y d bw' h1 h2 h3
      exact ⟨digs_set HD.out k h3, (by show _ = _; rw [List.length_set]; exact HK.out), sub_step la lb out k bw d bw' hkl (by rw [HXG.out, h1.out]; exact h2) HV.out⟩
    clear hx hra ho hb hkl
    have tail : True := trivial
    by_cases hlt2 : k < lb.length
    · have hrb := (HR2.out.keep HB3.out.size fun p _ ht => HB3.out.cell ht)
      obtain ⟨bd, y0, rfl, -, -, hy0, hcb⟩ := hrb.at_ hlt2
      rw [ns_get lb k hlt2] at hy0
      injection hy0 with hy0
      subst hy0
      have hyl := digs_get HDB.out k hlt2
      have HYG : Hid (lb.getD k 0 = lb[k]) := Lib.hid (getD_of_lt hlt2)
      obtain ⟨y, hy⟩ : ∃ y, y = lb[k] := ⟨_, rfl⟩
      rw [← hy] at hcb HYG hyl
      have hk2 : (k : Int) < lb.length := by omega
      unfold BB at hyl
      obtain ⟨y1, hy1⟩ : ∃ y1, y1 = bw + y := ⟨_, rfl⟩
      have e1 := wrap_add32 bw y y1 hy1.symm (by omega)
      clear hy hrb
      by_cases hxy : x < y1
      · have hxy1 : (x : Int) < y1 := by omega
        obtain ⟨x2, hx2⟩ : ∃ x2, x2 = x + 1000000000 := ⟨_, rfl⟩
        have e2 : IntKind.u32.wrap ((x : Int) + 1000000000) = (x2 : Int) := wrap_add32 x 1000000000 x2 hx2.symm (by omega)
        obtain ⟨d, hd⟩ : ∃ d, d = x2 - y1 := ⟨_, rfl⟩
        have e3 : IntKind.u32.wrap ((x2 : Int) - (y1 : Int)) = (d : Int) := by rw [show (x2 : Int) - (y1 : Int) = (d : Int) from by omega]; exact u32_wrap _ (by omega) (by omega)
        obtain ⟨F1, F2, F3⟩ := fin y d 1 HYG (by omega) (by omega)
        have hd9 : d < 1000000000 := by omega
        clear hx2 hd hy1 hxy hyl hxl fin
        go_wp2_with fail
        go_roundw
        case rel => exact ⟨k + 1, 1, out.set k d, rfl, by go_num, by omega, by omega, F2, F1, F3, HO3.out.setN k d hlt, keeps_set HB3.out (by rw [HG.out]; exact Nat.le_refl _) _⟩
        case measure => simp [intOf]; omega
      · have hxy1 : ¬ (x : Int) < y1 := by omega
        obtain ⟨d, hd⟩ : ∃ d, d = x - y1 := ⟨_, rfl⟩
        have e3 : IntKind.u32.wrap ((x : Int) - (y1 : Int)) = (d : Int) := by rw [show (x : Int) - (y1 : Int) = (d : Int) from by omega]; exact u32_wrap _ (by omega) (by omega)
        obtain ⟨F1, F2, F3⟩ := fin y d 0 HYG (by omega) (by omega)
        clear hd hy1 hxy hyl hxl fin
        go_wp2_with fail
        go_roundw
        case rel => exact ⟨k + 1, 0, out.set k d, rfl, by go_num, by omega, by omega, F2, F1, F3, HO3.out.setN k d hlt, keeps_set HB3.out (by rw [HG.out]; exact Nat.le_refl _) _⟩
        case measure => simp [intOf]; omega
    · have HYG0 : Hid (lb.getD k 0 = 0) := Lib.hid (getD_of_ge (by omega))
      have hk2 : ¬ (k : Int) < lb.length := by omega
      obtain ⟨y1, hy1⟩ : ∃ y1, y1 = bw := ⟨_, rfl⟩
      obtain rfl := hy1
      obtain ⟨y, hy0⟩ : ∃ y, y = 0 := ⟨_, rfl⟩
      have HYG : Hid (lb.getD k 0 = y) := Lib.hid (HYG0.out.trans hy0.symm)
      have hy1 : y1 = y1 + y := by omega
      have hyl : y < 1000000000 := by omega
      clear hlt2
      by_cases hxy : x < y1
      · have hxy1 : (x : Int) < y1 := by omega
        obtain ⟨x2, hx2⟩ : ∃ x2, x2 = x + 1000000000 := ⟨_, rfl⟩
        have e2 : IntKind.u32.wrap ((x : Int) + 1000000000) = (x2 : Int) := wrap_add32 x 1000000000 x2 hx2.symm (by omega)
        obtain ⟨d, hd⟩ : ∃ d, d = x2 - y1 := ⟨_, rfl⟩
        have e3 : IntKind.u32.wrap ((x2 : Int) - (y1 : Int)) = (d : Int) := by rw [show (x2 : Int) - (y1 : Int) = (d : Int) from by omega]; exact u32_wrap _ (by omega) (by omega)
        obtain ⟨F1, F2, F3⟩ := fin y d 1 HYG (by omega) (by omega)
        have hd9 : d < 1000000000 := by omega
        clear hx2 hd hy1 hxy hyl hxl fin
        go_wp2_with fail
        go_roundw
        case rel => exact ⟨k + 1, 1, out.set k d, rfl, by go_num, by omega, by omega, F2, F1, F3, HO3.out.setN k d hlt, keeps_set HB3.out (by rw [HG.out]; exact Nat.le_refl _) _⟩
        case measure => simp [intOf]; omega
      · have hxy1 : ¬ (x : Int) < y1 := by omega
        obtain ⟨d, hd⟩ : ∃ d, d = x - y1 := ⟨_, rfl⟩
        have e3 : IntKind.u32.wrap ((x : Int) - (y1 : Int)) = (d : Int) := by rw [show (x : Int) - (y1 : Int) = (d : Int) from by omega]; exact u32_wrap _ (by omega) (by omega)
        obtain ⟨F1, F2, F3⟩ := fin y d 0 HYG (by omega) (by omega)
        clear hd hy1 hxy hyl hxl fin
        go_wp2_with fail
        go_roundw
        case rel => exact ⟨k + 1, 0, out.set k d, rfl, by go_num, by omega, by omega, F2, F1, F3, HO3.out.setN k d hlt, keeps_set HB3.out (by rw [HG.out]; exact Nat.le_refl _) _⟩
        case measure => simp [intOf]; omega
  · obtain rfl : k = la.length := by omega
    have hV := HV.out
    rw [List.take_of_length_le (Nat.le_refl _), List.take_of_length_le (by rw [HK.out]; exact Nat.le_refl _), List.take_of_length_le HLB.out, HA.out, HB.out] at hV
    have hvo := val_lt out HD.out
    rw [HK.out] at hvo
    have HE : Hid (val out = a - b) := Lib.hid (by
      have : bw = 0 ∨ bw = 1 := by omega
      rcases this with rfl | rfl <;> omega)
    have HT := Lib.hid (trim_any wr _ _ out (by have := ho.dig; exact this) HD.out)
    have HB2 := Lib.hid hb
    have HO2 := Lib.hid ho
    clear ho hb hV hvo
    go_wp2_with fail
    refine HT.out.mono ?_
    rintro e w3 ⟨r, rfl, hr, rfl⟩
    rw [HE.out] at hr
    have HRR := Lib.hid hr
    clear hr
    go_wp2_with fail
    go_ret
    exact ⟨r, rfl, HRR.out.more (fun q _ h => by have := HG.out; omega), HB2.out⟩
end Go.Proofs.YtempdomhbfokmaaGreatDoor

namespace Go.Proofs.YtempdomhbfokmaaGreatDoor
open Go.RowKit

theorem wrap_add64 (x y s : Nat) (h : x + y = s) (hs : s < 18446744073709551616) : IntKind.u64.wrap ((x : Int) + (y : Int)) = (s : Int) := by
  rw [← Int.natCast_add, h]; exact IntWalk.u64_in _ ⟨by omega, by omega⟩
theorem wrap_mul64 (x y s : Nat) (h : x * y = s) (hs : s < 18446744073709551616) : IntKind.u64.wrap ((x : Int) * (y : Int)) = (s : Int) := by
  rw [← Int.natCast_mul, h]; exact IntWalk.u64_in _ ⟨by omega, by omega⟩
theorem wrap_n64 (x : Nat) (hs : x < 18446744073709551616) : IntKind.u64.wrap (x : Int) = (x : Int) := IntWalk.u64_in _ ⟨by omega, by omega⟩
theorem wrap_n32 (x : Nat) (hs : x < 4294967296) : IntKind.u32.wrap (x : Int) = (x : Int) := u32_wrap _ (by omega) (by omega)
theorem mul_lt_sq (x y : Nat) (hx : x < 1000000000) (hy : y ≤ 1000000000) : x * y ≤ 999999999 * 1000000000 := Nat.mul_le_mul (by omega) hy

set_option maxRecDepth 100000 in
set_option maxHeartbeats 4000000 in
theorem scaled_any (w : World) (T : Nat → Prop) (u : Value) (la : List Nat) (by' room : Nat) (hu : Dig w T u la) (hd : digs la) (hby : by' ≤ 1000000000) (hlr : la.length ≤ room) (hr : room ≤ 200000) (hv : by' * val la < BB ^ room) :
    Calls Tryz.prog 104 #[u, .int .u64 by', .int .i64 room] w fun e w' => ∃ L : List Nat, e = .returned (.slice (some ⟨w.heap.size, 0, none⟩) room room) ∧ L.length = room ∧ digs L ∧ val L = by' * val la ∧ Own w' (fun q => q = w.heap.size) 109 1 (.slice (some ⟨w.heap.size, 0, none⟩) room room) room (ns L) ∧ Below w.heap.size w w' := by
  obtain ⟨A1, c1, rfl, hr1, l1, m1, -⟩ := hu.old
  have HR1 := Lib.hid hr1
  have HDA := Lib.hid hd
  have HVL := Lib.hid hv
  clear hu hr1 hd hv
  go_enter Tryz.func104, Tryz.ntmps104
  go_upto_region 2 with (at_make; refine wpList_make_nat _ rfl _ _ rfl _ _ room rfl rfl rfl rfl (by omega) ?_; intro w1 hown hb1 hz1)
  obtain ⟨g, hg⟩ : ∃ g, g = w.heap.size := ⟨_, rfl⟩
  rw [← hg] at hown
  rw [← hg]
  have HG := Lib.hid hg
  have HO := Lib.hid hown
  have HB1 := Lib.hid hb1
  clear hown hb1 hg hz1
  go_wp2_with fail
  go_loopw [8, 15] (fun cv i wr => ∃ (k cy : Nat) (out : List Nat), cv = .int .u64 cy ∧ i = .int .i64 k ∧ k ≤ room ∧ cy < 1000000000 ∧ Hid (out.length = room) ∧ Hid (digs out) ∧ Hid (val (out.take k) + BB ^ k * cy = by' * val (la.take k)) ∧ Own wr (fun q => q = g) 109 1 (.slice (some ⟨g, 0, none⟩) room room) room (ns out) ∧ Below w.heap.size w wr) (fun _ i _ => room - (intOf i).toNat)
  case atStart => exact ⟨0, 0, List.replicate room 0, rfl, rfl, by omega, by omega, Lib.hid (by simp), Lib.hid (digs_zeros _), Lib.hid (by simp [val]), HO.out, HB1.out⟩
  obtain ⟨k, cy, out, rfl, rfl, hk, hcy, HK, HD, HV, ho, hb⟩ := hrel
  by_cases hlt : k < room
  · have hcg := ho.getN k hlt HK.out
    have hfg := ho.unfrozen k
    have HO3 := Lib.hid ho
    have HB3 := Lib.hid hb
    have hk1 : (k : Int) < room := by omega
    have hkl : k < out.length := by rw [HK.out]; exact hlt
    have fin : ∀ (x t : Nat), Hid (la.getD k 0 = x) → t = cy + x * by' → Hid (digs (out.set k (t % 1000000000))) ∧ Hid ((out.set k (t % 1000000000)).length = room) ∧ Hid (val ((out.set k (t % 1000000000)).take (k + 1)) + BB ^ (k + 1) * (t / 1000000000) = by' * val (la.take (k + 1))) := by
      intro x t h1 h2
      exact ⟨digs_set HD.out k (Nat.mod_lt _ (by decide)), (by show _ = _; rw [List.length_set]; exact HK.out), scaled_step la out k cy t by' hkl (by rw [h1.out]; exact h2) HV.out⟩
    clear ho hb hkl
    by_cases hlt2 : k < la.length
    · have hra := (HR1.out.keep HB3.out.size fun p _ ht => HB3.out.cell ht)
      obtain ⟨ad, x0, rfl, -, -, hx0, hca⟩ := hra.at_ hlt2
      rw [ns_get la k hlt2] at hx0
      injection hx0 with hx0
      subst hx0
      have hxl := digs_get HDA.out k hlt2
      have HXG : Hid (la.getD k 0 = la[k]) := Lib.hid (getD_of_lt hlt2)
      obtain ⟨x, hx⟩ : ∃ x, x = la[k] := ⟨_, rfl⟩
      rw [← hx] at hca HXG hxl
      have hk2 : (k : Int) < la.length := by omega
      unfold BB at hxl
      have hm := mul_lt_sq x by' hxl hby
      obtain ⟨p, hp⟩ : ∃ p, p = x * by' := ⟨_, rfl⟩
      obtain ⟨t, ht⟩ : ∃ t, t = cy + p := ⟨_, rfl⟩
      rw [← hp] at hm
      obtain ⟨F1, F2, F3⟩ := fin x t HXG (by rw [ht, hp])
      have e0 := wrap_n64 x (by omega)
      have e1 := wrap_mul64 x by' p hp.symm (by omega)
      have e2 := wrap_add64 cy p t ht.symm (by omega)
      obtain ⟨e3, e4⟩ := base_div t (by omega)
      obtain ⟨q, hq⟩ : ∃ q, q = t / 1000000000 := ⟨_, rfl⟩
      obtain ⟨r, hr⟩ : ∃ r, r = t % 1000000000 := ⟨_, rfl⟩
      rw [← hq] at F3 e3
      rw [← hr] at F1 F2 F3 e4
      have e5 := wrap_n64 q (by omega)
      have e6 := wrap_n64 r (by omega)
      have e7 := wrap_n32 r (by omega)
      have hq2 : q < 1000000000 := by omega
      clear hx hra hp ht hq hr fin hm hxl
      go_wp2_with fail
      go_roundw
      case rel => exact ⟨k + 1, q, out.set k r, rfl, by go_num, by omega, hq2, F2, F1, F3, HO3.out.setN k r hlt, keeps_set HB3.out (by rw [HG.out]; exact Nat.le_refl _) _⟩
      case measure => simp [intOf]; omega
    · have HXG : Hid (la.getD k 0 = 0) := Lib.hid (getD_of_ge (by omega))
      have hk2 : ¬ (k : Int) < la.length := by omega
      obtain ⟨F1, F2, F3⟩ := fin 0 cy HXG (by omega)
      rw [show cy % 1000000000 = cy from Nat.mod_eq_of_lt hcy] at F1 F2 F3
      rw [show cy / 1000000000 = 0 from Nat.div_eq_of_lt hcy] at F3
      obtain ⟨e3, e4⟩ := base_div cy (by omega)
      rw [show cy % 1000000000 = cy from Nat.mod_eq_of_lt hcy] at e4
      rw [show cy / 1000000000 = 0 from Nat.div_eq_of_lt hcy] at e3
      have e6 := wrap_n64 cy (by omega)
      have e7 := wrap_n32 cy (by omega)
      clear hlt2 fin
      go_wp2_with fail
      go_roundw
      case rel => exact ⟨k + 1, 0, out.set k cy, rfl, by go_num, by omega, by omega, F2, F1, F3, HO3.out.setN k cy hlt, keeps_set HB3.out (by rw [HG.out]; exact Nat.le_refl _) _⟩
      case measure => simp [intOf]; omega
  · obtain rfl : k = room := by omega
    have hV := HV.out
    rw [List.take_of_length_le (by rw [HK.out]; exact Nat.le_refl _), List.take_of_length_le hlr] at hV
    have HE : Hid (val out = by' * val la) := Lib.hid (by
      rcases Nat.eq_zero_or_pos cy with h0 | h0
      · rw [h0] at hV; omega
      · have h1 : BB ^ k * 1 ≤ BB ^ k * cy := Nat.mul_le_mul_left _ h0
        have := HVL.out
        omega)
    have HB2 := Lib.hid hb
    have HO2 := Lib.hid ho
    clear ho hb hV
    go_wp2_with fail
    go_ret
    have hg := HG.out
    subst hg
    exact ⟨out, rfl, HK.out, HD.out, HE.out, HO2.out, HB2.out⟩

set_option maxRecDepth 100000 in
set_option maxHeartbeats 4000000 in
theorem short_any (w : World) (T : Nat → Prop) (u : Value) (la : List Nat) (by' : Nat) (hu : Dig w T u la) (hd : digs la) (hby : by' ≤ 1000000000) (hb0 : 0 < by') (hl5 : la.length ≤ 200000) :
    Calls Tryz.prog 103 #[u, .int .u64 by'] w fun e w' => ∃ r, e = .returned (.tuple #[r, .int .u64 ((val la % by' : Nat) : Int)]) ∧ NatR w' (fun q => w.heap.size ≤ q) r (val la / by') ∧ Below w.heap.size w w' := by
  obtain ⟨A1, c1, rfl, hr1, l1, m1, -⟩ := hu.old
  have HR1 := Lib.hid hr1
  have HDA := Lib.hid hd
  clear hu hr1 hd
  have hlm : wrap64 ((la.length : Int) - 1) = (la.length : Int) - 1 := IntWalk.wrap64_in _ ⟨by omega, by omega⟩
  go_enter Tryz.func103, Tryz.ntmps103
  go_upto_region 2 with (at_make; refine wpList_make_nat _ rfl _ _ rfl _ _ la.length rfl rfl rfl rfl (by omega) ?_; intro w1 hown hb1 hz1)
  obtain ⟨g, hg⟩ : ∃ g, g = w.heap.size := ⟨_, rfl⟩
  rw [← hg] at hown
  rw [← hg]
  have HG := Lib.hid hg
  have HO := Lib.hid hown
  have HB1 := Lib.hid hb1
  clear hown hb1 hg hz1
  go_wp2_with fail
  go_loopw [7, 8] (fun rv i wr => ∃ (k rest : Nat) (out : List Nat), rv = .int .u64 rest ∧ i = .int .i64 ((k : Int) - 1) ∧ k ≤ la.length ∧ rest < by' ∧ Hid (out.length = la.length) ∧ Hid (digs out) ∧ Hid (val (la.drop k) = by' * val (out.drop k) + rest) ∧ Own wr (fun q => q = g) 109 1 (.slice (some ⟨g, 0, none⟩) la.length la.length) la.length (ns out) ∧ Below w.heap.size w wr) (fun _ i _ => (intOf i + 1).toNat)
  case atStart => exact ⟨la.length, 0, List.replicate la.length 0, rfl, by go_num, by omega, hb0, Lib.hid (by simp), Lib.hid (digs_zeros _), Lib.hid (by simp [val]), HO.out, HB1.out⟩
  obtain ⟨k, rest, out, rfl, rfl, hk, hrest, HK, HD, HV, ho, hb⟩ := hrel
  by_cases hk0 : k = 0
  · subst hk0
    have hV := HV.out
    rw [List.drop_zero, List.drop_zero] at hV
    have HE : Hid (val out = val la / by') := Lib.hid (by rw [hV, Nat.mul_add_div hb0, Nat.div_eq_of_lt hrest, Nat.add_zero])
    have HE2 : Hid (val la % by' = rest) := Lib.hid (by rw [hV, Nat.mul_add_mod_self_left, Nat.mod_eq_of_lt hrest])
    have HT := Lib.hid (trim_any wr _ _ out (by have := ho.dig; exact this) HD.out)
    have HB2 := Lib.hid hb
    have HO2 := Lib.hid ho
    clear ho hb hV
    go_wp2_with fail
    refine HT.out.mono ?_
    rintro e w3 ⟨r, rfl, hr, rfl⟩
    rw [HE.out] at hr
    have HRR := Lib.hid hr
    clear hr
    go_wp2_with fail
    go_ret2
    exact ⟨r, by rw [HE2.out]; rfl, HRR.out.more (fun q _ h => by have := HG.out; omega), HB2.out⟩
  · obtain ⟨m, rfl⟩ : ∃ m, k = m + 1 := ⟨k - 1, by omega⟩
    have i1 : ((m + 1 : Nat) : Int) - 1 = m := by omega
    rw [i1]
    have hlt : m < la.length := by omega
    have hra := (HR1.out.keep hb.size fun p _ ht => hb.cell ht)
    obtain ⟨ad, x0, rfl, -, -, hx0, hca⟩ := hra.at_ hlt
    rw [ns_get la m hlt] at hx0
    injection hx0 with hx0
    subst hx0
    have hxl := digs_get HDA.out m hlt
    have hcg := ho.getN m hlt HK.out
    have hfg := ho.unfrozen m
    have HO3 := Lib.hid ho
    have HB3 := Lib.hid hb
    have hk1 : (m : Int) < la.length := by omega
    have hmw : wrap64 ((m : Int) - 1) = (m : Int) - 1 := IntWalk.wrap64_in _ ⟨by omega, by omega⟩
    have hst := short_step la out m rest (rest * 1000000000 + la[m]) by' hlt (by rw [HK.out]; exact hlt) rfl HV.out
    obtain ⟨x, hx⟩ : ∃ x, x = la[m] := ⟨_, rfl⟩
    rw [← hx] at hca hxl hst
    unfold BB at hxl
    obtain ⟨p, hp⟩ : ∃ p, p = rest * 1000000000 := ⟨_, rfl⟩
    rw [← hp] at hst
    obtain ⟨t, ht⟩ : ∃ t, t = p + x := ⟨_, rfl⟩
    rw [← ht] at hst
    have hpb : p ≤ (by' - 1) * 1000000000 := by rw [hp]; exact Nat.mul_le_mul_right _ (by omega)
    have htb : t < by' * 1000000000 := by
      have : (by' - 1) * 1000000000 + 1000000000 = by' * 1000000000 := by rw [← Nat.succ_mul]; congr 1; omega
      omega
    have htc : t < 1000000000000000000 := by
      have : by' * 1000000000 ≤ 1000000000 * 1000000000 := Nat.mul_le_mul_right _ hby
      omega
    have hq9 : t / by' < 1000000000 := (Nat.div_lt_iff_lt_mul hb0).2 (by rw [Nat.mul_comm]; exact htb)
    have hr9 : t % by' < by' := Nat.mod_lt _ hb0
    have e0 := wrap_n64 x (by omega)
    have e1 : IntKind.u64.wrap ((rest : Int) * 1000000000) = (p : Int) := wrap_mul64 rest 1000000000 p hp.symm (by omega)
    have e2 := wrap_add64 p x t ht.symm (by omega)
    have e3 : (t : Int).tdiv (by' : Int) = ((t / by' : Nat) : Int) := by rw [Int.tdiv_eq_ediv_of_nonneg (by omega)]; rfl
    have e4 : (t : Int).tmod (by' : Int) = ((t % by' : Nat) : Int) := by rw [Int.tmod_eq_emod_of_nonneg (by omega)]; rfl
    obtain ⟨q, hq⟩ : ∃ q, q = t / by' := ⟨_, rfl⟩
    obtain ⟨r, hr⟩ : ∃ r, r = t % by' := ⟨_, rfl⟩
    rw [← hq] at e3 hq9 hst
    rw [← hr] at e4 hr9 hst
    have e5 := wrap_n64 q (by omega)
    have e6 := wrap_n64 r (by omega)
    have e7 := wrap_n32 q (by omega)
    have e8 : ¬ (by' : Int) = 0 := by omega
    have HST := Lib.hid hst
    have HQ9 := Lib.hid hq9
    clear hx hra hp ht hq hr hpb htb htc hxl hst i1 hk0 hq9
    go_upto_region 7 with (fail)
    go_region
    go_wp2_with fail
    go_roundw
    case rel => exact ⟨m, r, out.set m q, rfl, by go_num, by omega, hr9, (by show _ = _; rw [List.length_set]; exact HK.out), digs_set HD.out m (by have := HQ9.out; unfold BB; omega), HST.out, (HO3.out.setN m q hlt).drewN 1, ((Keeps.of_below (keeps_set HB3.out (by rw [HG.out]; exact Nat.le_refl _) _) (fun _ => False)).drewN 1).to_below⟩
    case measure => simp [intOf, hmw]
end Go.Proofs.YtempdomhbfokmaaGreatDoor

namespace Go.Proofs.YtempdomhbfokmaaGreatDoor
open Go.RowKit

theorem getD_set_ne (l : List Nat) (k j d : Nat) (h : k ≠ j) : (l.set k d).getD j 0 = l.getD j 0 := by simp [List.getD, List.getElem?_set_ne h]
theorem mul_lt_sq2 (x y : Nat) (hx : x < 1000000000) (hy : y < 1000000000) : x * y ≤ 999999999 * 999999999 := Nat.mul_le_mul (by omega) (by omega)
theorem ofN_mul_len (a b : Nat) : (ofN (a * b)).length ≤ (ofN a).length + (ofN b).length := by
  refine ofN_length_le _ _ ?_
  rw [Nat.pow_add]
  have h1 := lt_pow_ofN a
  have h2 := lt_pow_ofN b
  exact Nat.lt_of_le_of_lt (Nat.mul_le_mul_left _ (Nat.le_of_lt h2)) (Nat.mul_lt_mul_of_pos_right h1 (by omega))
theorem mul_zero (la lb : List Nat) (h : la = [] ∨ lb = []) : val la * val lb = 0 := by rcases h with rfl | rfl <;> simp [val]

set_option maxRecDepth 100000 in
set_option maxHeartbeats 8000000 in
theorem mul_any (w : World) (T T' : Nat → Prop) (u v : Value) (a b : Nat) (hu : NatR w T u a) (hv : NatR w T' v b) (hla : (ofN a).length ≤ 100000) (hlb : (ofN b).length ≤ 100000) :
    Calls Tryz.prog 44 #[u, v] w fun e w' => ∃ r, e = .returned r ∧ NatR w' (fun g => w.heap.size ≤ g) r (a * b) ∧ Below w.heap.size w w' := by
  obtain ⟨A1, c1, rfl, hr1, l1, m1, -⟩ := hu.old
  obtain ⟨A2, c2, rfl, hr2, l2, m2, -⟩ := hv.old
  have HR1 := Lib.hid hr1
  have HR2 := Lib.hid hr2
  have HA := Lib.hid (val_ofN a)
  have HB := Lib.hid (val_ofN b)
  have HDA := Lib.hid (digs_ofN a)
  have HDB := Lib.hid (digs_ofN b)
  have HZ0 := Lib.hid (mul_zero (ofN a) (ofN b))
  generalize ofN a = la at *
  generalize ofN b = lb at *
  clear hu hv hr1 hr2
  have zero : (la.length = 0 ∨ lb.length = 0) → a * b = 0 := fun h => by
    have := HZ0.out (by rcases h with h | h; exact Or.inl (List.eq_nil_of_length_eq_zero h); exact Or.inr (List.eq_nil_of_length_eq_zero h))
    rwa [HA.out, HB.out] at this
  have HZ := Lib.hid zero
  clear zero HZ0
  by_cases h1 : la.length = 0
  · have HE := Lib.hid (HZ.out (Or.inl h1))
    have h1' : (la.length : Int) = 0 := by omega
    have b1 : ((la.length : Int) == 0) = true := by simp [h1]
    clear HZ h1
    go_enter Tryz.func44, Tryz.ntmps44
    go_wp2_with fail
    go_ret
    exact ⟨_, rfl, by rw [HE.out]; exact NatR.zero _ _, Below.refl _ _⟩
  by_cases h2 : lb.length = 0
  · have HE := Lib.hid (HZ.out (Or.inr h2))
    have h1' : (lb.length : Int) = 0 := by omega
    have b1 : ((la.length : Int) == 0) = false := by simpa using h1
    have b2 : ((lb.length : Int) == 0) = true := by simp [h2]
    clear HZ h1 h2
    go_enter Tryz.func44, Tryz.ntmps44
    go_wp2_with fail
    go_ret
    exact ⟨_, rfl, by rw [HE.out]; exact NatR.zero _ _, Below.refl _ _⟩
  have b1 : ((la.length : Int) == 0) = false := by simpa using h1
  have b2 : ((lb.length : Int) == 0) = false := by simpa using h2
  clear HZ h1 h2
  go_enter Tryz.func44, Tryz.ntmps44
  go_upto_region 4 with (at_make; refine wpList_make_nat _ rfl _ _ rfl _ _ (la.length + lb.length) rfl rfl (by go_num) (by go_num) (by omega) ?_; intro w1 hown hb1 hz1)
  obtain ⟨g, hg⟩ : ∃ g, g = w.heap.size := ⟨_, rfl⟩
  rw [← hg] at hown
  rw [← hg]
  have HG := Lib.hid hg
  have HO := Lib.hid hown
  have HB1 := Lib.hid hb1
  clear hown hb1 hg hz1
  obtain ⟨n, hn⟩ : ∃ n, n = la.length + lb.length := ⟨_, rfl⟩
  rw [← hn] at HO
  rw [← hn]
  have hn2 : (n : Int) ≤ maxLen := by unfold maxLen; omega
  go_wp2_with fail
  go_loopw [28] (fun i wr => ∃ (i' : Nat) (out : List Nat), i = .int .i64 i' ∧ i' ≤ la.length ∧ Hid (out.length = n) ∧ Hid (digs out) ∧ Hid (val out = val (la.take i') * val lb) ∧ Hid (∀ j, i' + lb.length ≤ j → out.getD j 0 = 0) ∧ Own wr (fun q => q = g) 109 1 (.slice (some ⟨g, 0, none⟩) n n) n (ns out) ∧ Below w.heap.size w wr) (fun i _ => la.length - (intOf i).toNat)
  case atStart => exact ⟨0, List.replicate n 0, rfl, by omega, Lib.hid (by simp), Lib.hid (digs_zeros _), Lib.hid (by rw [val_zeros]; simp [val]), Lib.hid (fun j _ => by by_cases h : j < n <;> simp [List.getD, h]), HO.out, HB1.out⟩
  obtain ⟨i, out, rfl, hi, HK, HD, HV, HZ, ho, hb⟩ := hrel
  by_cases hlt : i < la.length
  · have hra := (HR1.out.keep hb.size fun p _ ht => hb.cell ht)
    obtain ⟨ad, x0, rfl, -, -, hx0, hca⟩ := hra.at_ hlt
    rw [ns_get la i hlt] at hx0
    injection hx0 with hx0
    subst hx0
    have hxl := digs_get HDA.out i hlt
    have HXG : Hid (la.getD i 0 = la[i]) := Lib.hid (getD_of_lt hlt)
    obtain ⟨x, hx⟩ : ∃ x, x = la[i] := ⟨_, rfl⟩
    rw [← hx] at hca HXG hxl
    have hk1 : (i : Int) < la.length := by omega
    have HXL := Lib.hid hxl
    unfold BB at hxl
    have e0 := wrap_n64 x (by omega)
    have HO3 := Lib.hid ho
    have HB3 := Lib.hid hb
    clear hx hra ho hb hxl
    go_wp2_with fail
    obtain ⟨wo, rfl⟩ : ∃ wo : World, wo = wr := ⟨_, rfl⟩
    go_loopw [8, 35] (fun cv kv wr => ∃ (k cy : Nat) (o : List Nat), cv = .int .u64 cy ∧ kv = .int .i64 k ∧ k ≤ lb.length ∧ cy < 1000000000 ∧ Hid (o.length = n) ∧ Hid (digs o) ∧ Hid (val o + BB ^ (i + k) * cy = val (la.take i) * val lb + BB ^ i * (x * val (lb.take k))) ∧ Hid (∀ j, i + lb.length ≤ j → o.getD j 0 = 0) ∧ Own wr (fun q => q = g) 109 1 (.slice (some ⟨g, 0, none⟩) n n) n (ns o) ∧ Below w.heap.size w wr) (fun _ kv _ => lb.length - (intOf kv).toNat)
    case atStart => exact ⟨0, 0, out, rfl, rfl, by omega, by omega, HK, HD, Lib.hid (by rw [HV.out]; simp [val]), HZ, HO3.out, HB3.out⟩
    obtain ⟨k, cy, o, rfl, rfl, hk, hcy, HK2, HD2, HV2, HZ2, ho2, hb2⟩ := hrel
    have hol : i + lb.length < o.length := by rw [HK2.out, hn]; omega
    by_cases hlt2 : k < lb.length
    · have hrb := (HR2.out.keep hb2.size fun p _ ht => hb2.cell ht)
      obtain ⟨bd, y0, rfl, -, -, hy0, hcb⟩ := hrb.at_ hlt2
      rw [ns_get lb k hlt2] at hy0
      injection hy0 with hy0
      subst hy0
      have hyl := digs_get HDB.out k hlt2
      have HYG : Hid (lb.getD k 0 = lb[k]) := Lib.hid (getD_of_lt hlt2)
      obtain ⟨y, hy⟩ : ∃ y, y = lb[k] := ⟨_, rfl⟩
      rw [← hy] at hcb HYG hyl
      have hikn : i + k < n := by omega
      have hik : i + k < o.length := by rw [HK2.out]; exact hikn
      have hzl := digs_get HD2.out (i + k) hik
      have HZG : Hid (o.getD (i + k) 0 = o[i + k]) := Lib.hid (getD_of_lt hik)
      have hcg := ho2.getN (i + k) hikn HK2.out
      have hfg := ho2.unfrozen (i + k)
      obtain ⟨z, hz⟩ : ∃ z, z = o[i + k] := ⟨_, rfl⟩
      rw [← hz] at hcg HZG hzl
      have hk2 : (k : Int) < lb.length := by omega
      have hxl := HXL.out
      unfold BB at hyl hzl hxl
      have hm := mul_lt_sq2 x y hxl hyl
      obtain ⟨p, hp⟩ : ∃ p, p = x * y := ⟨_, rfl⟩
      rw [← hp] at hm
      obtain ⟨t1, ht1⟩ : ∃ t1, t1 = p + z := ⟨_, rfl⟩
      obtain ⟨t, ht⟩ : ∃ t, t = t1 + cy := ⟨_, rfl⟩
      have hst := mul_step lb o i k cy t x (val (la.take i) * val lb) hik (by rw [HYG.out, HZG.out, ht, ht1, hp]) HV2.out
      have f0 := wrap_n64 y (by omega)
      have f1 := wrap_n64 z (by omega)
      have e1 := wrap_mul64 x y p hp.symm (by omega)
      have e2 := wrap_add64 p z t1 ht1.symm (by omega)
      have e2' := wrap_add64 t1 cy t ht.symm (by omega)
      obtain ⟨e3, e4⟩ := base_div t (by omega)
      unfold BB at hst
      obtain ⟨q, hq⟩ : ∃ q, q = t / 1000000000 := ⟨_, rfl⟩
      obtain ⟨r, hr⟩ : ∃ r, r = t % 1000000000 := ⟨_, rfl⟩
      rw [← hq] at hst e3
      rw [← hr] at hst e4
      have HST := Lib.hid hst
      have e5 := wrap_n64 q (by omega)
      have e6 := wrap_n64 r (by omega)
      have e7 := wrap_n32 r (by omega)
      have hq2 : q < 1000000000 := by omega
      have hr2 : r < 1000000000 := by omega
      have i5 : (i : Int) + k < n := by omega
      have HO4 := Lib.hid ho2
      have HB4 := Lib.hid hb2
      have HIK := Lib.hid hikn
      clear hy hrb hp ht1 ht hq hr hm hyl hzl hxl hst hz hik ho2 hb2 hikn hol
      go_wp2_with fail
      go_roundw
      case rel =>
        refine ⟨k + 1, q, o.set (i + k) r, rfl, by go_num, by omega, hq2, (by show _ = _; rw [List.length_set]; exact HK2.out), digs_set HD2.out _ (by unfold BB; exact hr2), HST.out, ?_, HO4.out.setN (i + k) r HIK.out, keeps_set HB4.out (by rw [HG.out]; exact Nat.le_refl _) _⟩
        intro j hj
        rw [getD_set_ne _ _ _ _ (by omega)]
        exact HZ2.out j hj
      case measure => simp [intOf]; omega
    · obtain rfl : k = lb.length := by omega
      have hin : i + lb.length < n := by omega
      have hz0 : o[i + lb.length] = 0 := by rw [← getD_of_lt hol]; exact HZ2.out _ (Nat.le_refl _)
      have HML := Lib.hid (mul_last la lb o i cy x hol HXG.out.symm hz0 HV2.out)
      have hcg := ho2.getN (i + lb.length) hin HK2.out
      have hfg := ho2.unfrozen (i + lb.length)
      rw [hz0] at hcg
      have e7 := wrap_n32 cy (by omega)
      have i5 : (i : Int) + lb.length < n := by omega
      have HO4 := Lib.hid ho2
      have HB4 := Lib.hid hb2
      have HIN := Lib.hid hin
      have HN := Lib.hid hn
      clear ho2 hb2 hin hz0 hol hn
      go_wp2_with fail
      go_roundw
      case rel =>
        refine ⟨i + 1, o.set (i + lb.length) cy, by go_num, by omega, (by show _ = _; rw [List.length_set]; exact HK2.out), digs_set HD2.out _ (by unfold BB; exact hcy), HML.out, ?_, HO4.out.setN (i + lb.length) cy HIN.out, keeps_set HB4.out (by rw [HG.out]; exact Nat.le_refl _) _⟩
        intro j hj
        rw [getD_set_ne _ _ _ _ (by omega)]
        exact HZ2.out j (by omega)
      case measure => simp [intOf]; omega
  · obtain rfl : i = la.length := by omega
    have hV := HV.out
    rw [List.take_of_length_le (Nat.le_refl _), HA.out, HB.out] at hV
    have hdig : Dig wr (fun q => q = g) (.slice (some ⟨g, 0, none⟩) n n) out := ho.dig
    have HT := Lib.hid (trim_any wr _ _ out hdig HD.out)
    rw [hV] at HT
    have HB2 := Lib.hid hb
    have HN := Lib.hid hn
    clear ho hb hV hdig hn hn2
    go_wp2_with fail
    refine HT.out.mono ?_
    rintro e w3 ⟨r, rfl, hr, rfl⟩
    have HRR := Lib.hid hr
    clear hr
    go_wp2_with fail
    go_ret
    exact ⟨r, rfl, HRR.out.more (fun q _ h => by have := HG.out; omega), HB2.out⟩
end Go.Proofs.YtempdomhbfokmaaGreatDoor

namespace Go.Proofs.YtempdomhbfokmaaGreatDoor
open Go.RowKit

theorem drop_set_add (L : List Nat) (off k d : Nat) : (L.set (off + k) d).drop off = (L.drop off).set k d := by
  apply List.ext_getElem?
  intro i
  rw [List.getElem?_drop]
  by_cases h : k = i
  · subst h
    by_cases h2 : off + k < L.length
    · rw [List.getElem?_set_self h2, List.getElem?_set_self (by rw [List.length_drop]; omega)]
    · rw [List.getElem?_eq_none (by simp; omega), List.getElem?_eq_none (by simp; omega)]
  · rw [List.getElem?_set_ne (by omega), List.getElem?_set_ne h, List.getElem?_drop]
theorem take_set_add (L : List Nat) (off k d : Nat) : (L.set (off + k) d).take off = L.take off := by
  rw [List.take_set_of_le (by omega)]
theorem drop_getD (L : List Nat) (off k : Nat) : (L.drop off).getD k 0 = L.getD (off + k) 0 := by simp [List.getD, List.getElem?_drop]
theorem same_drop {L M : List Nat} {k : Nat} (h : L.drop k = M.drop k) : L.getD k 0 = M.getD k 0 ∧ L.drop (k + 1) = M.drop (k + 1) := by
  constructor
  · have := congrArg (fun l => l.getD 0 0) h
    simpa [List.getD, List.getElem?_drop] using this
  · have := congrArg (fun l => l.drop 1) h
    simpa [List.drop_drop] using this

set_option maxRecDepth 100000 in
set_option maxHeartbeats 8000000 in
theorem less_any (w : World) (T : Nat → Prop) (g off m N cu : Nat) (L lv : List Nat) (v : Value) (q : Nat) (hv : Dig w T v lv) (hT : ¬ T g) (hdv : digs lv) (hdL : digs L) (hLN : L.length = N) (hm : off + m ≤ N) (hN : N ≤ 1000000) (hcu : m ≤ cu) (hq : q < 1000000000) (hvm : lv.length ≤ m)
    (ho : Own w (fun x => x = g) 109 1 (.slice (some ⟨g, 0, none⟩) N N) N (ns L)) :
    Calls Tryz.prog 141 #[.slice (some ⟨g, off, none⟩) m cu, v, .int .u64 q] w fun e w' => ∃ (c : Nat) (L' : List Nat), e = .returned (.bool (decide (0 < c))) ∧ Own w' (fun x => x = g) 109 1 (.slice (some ⟨g, 0, none⟩) N N) N (ns L') ∧ L'.length = N ∧ digs L' ∧ L'.take off = L.take off ∧ L'.drop (off + m) = L.drop (off + m) ∧ val ((L.drop off).take m) + BB ^ m * c = val ((L'.drop off).take m) + q * val lv ∧ Keeps (fun x => x = g) w w' := by
  obtain ⟨A2, c2, rfl, hr2, l2, m2, -⟩ := hv
  have HR2 := Lib.hid hr2
  have HDV := Lib.hid hdv
  have HDL := Lib.hid hdL
  have HLN := Lib.hid hLN
  have HO := Lib.hid ho
  have HT := Lib.hid hT
  clear hr2 hdv hdL hLN ho hT
  go_enter Tryz.func141, Tryz.ntmps141
  go_wp2_with fail
  go_loopw [7, 14] (fun cv i wr => ∃ (k cy : Nat) (M : List Nat), cv = .int .u64 cy ∧ i = .int .i64 k ∧ k ≤ m ∧ cy ≤ 1000000000 ∧ Hid (M.length = N) ∧ Hid (digs M) ∧ Hid (M.take off = L.take off) ∧ Hid (M.drop (off + k) = L.drop (off + k)) ∧ Hid (val ((L.drop off).take k) + BB ^ k * cy = val ((M.drop off).take k) + q * val (lv.take k)) ∧ Own wr (fun x => x = g) 109 1 (.slice (some ⟨g, 0, none⟩) N N) N (ns M) ∧ Keeps (fun x => x = g) w wr) (fun _ i _ => m - (intOf i).toNat)
  case atStart => exact ⟨0, 0, L, rfl, rfl, by omega, by omega, HLN, HDL, Lib.hid rfl, Lib.hid rfl, Lib.hid (by simp [val]), HO.out, Keeps.refl _ _⟩
  obtain ⟨k, cy, M, rfl, rfl, hk, hcy, HK, HD, HTK, HDR, HV, ho, hkp⟩ := hrel
  by_cases hlt : k < m
  · have hin : off + k < N := by omega
    have hcg := ho.getN (off + k) hin HK.out
    have hfg := ho.unfrozen (off + k)
    have hxl := digs_get HD.out (off + k) (by rw [HK.out]; exact hin)
    have HXG : Hid ((L.drop off).getD k 0 = M[off + k]'(by rw [HK.out]; exact hin)) := Lib.hid (by
      rw [drop_getD, ← (same_drop HDR.out).1]; exact getD_of_lt _)
    obtain ⟨x, hx⟩ : ∃ x, x = M[off + k]'(by rw [HK.out]; exact hin) := ⟨_, rfl⟩
    rw [← hx] at hcg hxl HXG
    unfold BB at hxl
    have e0 := wrap_n64 x (by omega)
    have hk1 : (k : Int) < m := by omega
    have HO3 := Lib.hid ho
    have HK3 := Lib.hid hkp
    have HIN := Lib.hid hin
    have fin : ∀ (t d c' : Nat), t = cy + q * lv.getD k 0 → x + 1000000000 * (c' - t / 1000000000) = d + t % 1000000000 → t / 1000000000 ≤ c' → d < 1000000000 → Hid (digs (M.set (off + k) d)) ∧ Hid ((M.set (off + k) d).length = N) ∧ Hid ((M.set (off + k) d).take off = L.take off) ∧ Hid ((M.set (off + k) d).drop (off + (k + 1)) = L.drop (off + (k + 1))) ∧ Hid (val ((L.drop off).take (k + 1)) + BB ^ (k + 1) * c' = val (((M.set (off + k) d).drop off).take (k + 1)) + q * val (lv.take (k + 1))) := by
      intro t d c' h1 h2 h3 h4
      refine ⟨digs_set HD.out _ h4, (by show _ = _; rw [List.length_set]; exact HK.out), (by show _ = _; rw [take_set_add]; exact HTK.out), (by show _ = _; rw [List.drop_set_of_lt (by omega)]; exact (same_drop HDR.out).2), ?_⟩
      show _ = _
      rw [drop_set_add]
      exact less_step (L.drop off) lv (M.drop off) k cy t q d c' (by rw [List.length_drop, HK.out]; omega) h1 (by rw [HXG.out]; exact h2) h3 HV.out
    clear hx ho hkp hin
    by_cases hlt2 : k < lv.length
    · have hrb := (HR2.out.keeps HK3.out (fun i hi e => HT.out (by rw [← e]; exact hi)))
      obtain ⟨bd, y0, rfl, -, -, hy0, hcb⟩ := hrb.at_ hlt2
      rw [ns_get lv k hlt2] at hy0
      injection hy0 with hy0
      subst hy0
      have hyl := digs_get HDV.out k hlt2
      have HYG : Hid (lv.getD k 0 = lv[k]) := Lib.hid (getD_of_lt hlt2)
      obtain ⟨y, hy⟩ : ∃ y, y = lv[k] := ⟨_, rfl⟩
      rw [← hy] at hcb HYG hyl
      have hk2 : (k : Int) < lv.length := by omega
      unfold BB at hyl
      have hmm := mul_lt_sq2 q y hq hyl
      obtain ⟨p, hp⟩ : ∃ p, p = q * y := ⟨_, rfl⟩
      rw [← hp] at hmm
      obtain ⟨t, ht⟩ : ∃ t, t = cy + p := ⟨_, rfl⟩
      have f0 := wrap_n64 y (by omega)
      have e1 := wrap_mul64 q y p hp.symm (by omega)
      have e2 := wrap_add64 cy p t ht.symm (by omega)
      have htl : t = cy + q * lv.getD k 0 := by rw [HYG.out, ht, hp]
      have htb : t < 1000000000 * 1000000000 := by omega
      clear hy hrb hp ht hmm hyl
      obtain ⟨e3, e4⟩ := base_div t (by omega)
      obtain ⟨c1, hc1⟩ : ∃ c1, c1 = t / 1000000000 := ⟨_, rfl⟩
      obtain ⟨y2, hy2⟩ : ∃ y2, y2 = t % 1000000000 := ⟨_, rfl⟩
      rw [← hc1] at e3
      rw [← hy2] at e4
      have e5 := wrap_n64 c1 (by omega)
      have e6 := wrap_n64 y2 (by omega)
      have hc1b : c1 < 1000000000 := by omega
      by_cases hxy : x < y2
      · have hxy1 : (x : Int) < y2 := by omega
        obtain ⟨d1, hd1⟩ : ∃ d1, d1 = 1000000000 - y2 := ⟨_, rfl⟩
        obtain ⟨d, hd⟩ : ∃ d, d = x + d1 := ⟨_, rfl⟩
        have e7 : IntKind.u64.wrap (1000000000 - (y2 : Int)) = (d1 : Int) := by rw [show 1000000000 - (y2 : Int) = (d1 : Int) from by omega]; exact wrap_n64 d1 (by omega)
        have e8 := wrap_add64 x d1 d hd.symm (by omega)
        obtain ⟨c', hc'⟩ : ∃ c', c' = c1 + 1 := ⟨_, rfl⟩
        have e9 : IntKind.u64.wrap ((c1 : Int) + 1) = (c' : Int) := wrap_add64 c1 1 c' hc'.symm (by omega)
        have e10 := wrap_n32 d (by omega)
        obtain ⟨F1, F2, F3, F4, F5⟩ := fin t d c' htl (by rw [← hc1, ← hy2, hc', Nat.add_sub_cancel_left]; omega) (by omega) (by omega)
        have hcb' : c' ≤ 1000000000 := by omega
        clear htl htb hc1 hy2 hc1b hxy hd1 hd hc' hxl fin
        go_wp2_with fail
        go_roundw
        case rel => exact ⟨k + 1, c', M.set (off + k) d, rfl, by go_num, by omega, hcb', F2, F1, F3, F4, F5, HO3.out.setN (off + k) d HIN.out, HK3.out.setCell (p := ⟨g, off + k, none⟩) (fun _ => rfl) _⟩
        case measure => simp [intOf]; omega
      · have hxy1 : ¬ (x : Int) < y2 := by omega
        obtain ⟨d, hd⟩ : ∃ d, d = x - y2 := ⟨_, rfl⟩
        have e7 : IntKind.u64.wrap ((x : Int) - (y2 : Int)) = (d : Int) := by rw [show (x : Int) - (y2 : Int) = (d : Int) from by omega]; exact wrap_n64 d (by omega)
        have e10 := wrap_n32 d (by omega)
        obtain ⟨F1, F2, F3, F4, F5⟩ := fin t d c1 htl (by rw [← hc1, ← hy2, Nat.sub_self]; omega) (by omega) (by omega)
        have hcb' : c1 ≤ 1000000000 := by omega
        clear htl htb hc1 hy2 hc1b hxy hd hxl fin
        go_wp2_with fail
        go_roundw
        case rel => exact ⟨k + 1, c1, M.set (off + k) d, rfl, by go_num, by omega, hcb', F2, F1, F3, F4, F5, HO3.out.setN (off + k) d HIN.out, HK3.out.setCell (p := ⟨g, off + k, none⟩) (fun _ => rfl) _⟩
        case measure => simp [intOf]; omega
    · have HYG : Hid (lv.getD k 0 = 0) := Lib.hid (getD_of_ge (by omega))
      have hk2 : ¬ (k : Int) < lv.length := by omega
      obtain ⟨t, ht⟩ : ∃ t, t = cy := ⟨_, rfl⟩
      have htl : t = cy + q * lv.getD k 0 := by rw [HYG.out, ht]; omega
      have htb : t < 1000000000 * 1000000000 := by omega
      obtain rfl := ht
      obtain ⟨e3, e4⟩ := base_div t (by omega)
      obtain ⟨c1, hc1⟩ : ∃ c1, c1 = t / 1000000000 := ⟨_, rfl⟩
      obtain ⟨y2, hy2⟩ : ∃ y2, y2 = t % 1000000000 := ⟨_, rfl⟩
      rw [← hc1] at e3
      rw [← hy2] at e4
      have e5 := wrap_n64 c1 (by omega)
      have e6 := wrap_n64 y2 (by omega)
      have hc1b : c1 < 1000000000 := by omega
      by_cases hxy : x < y2
      · have hxy1 : (x : Int) < y2 := by omega
        obtain ⟨d1, hd1⟩ : ∃ d1, d1 = 1000000000 - y2 := ⟨_, rfl⟩
        obtain ⟨d, hd⟩ : ∃ d, d = x + d1 := ⟨_, rfl⟩
        have e7 : IntKind.u64.wrap (1000000000 - (y2 : Int)) = (d1 : Int) := by rw [show 1000000000 - (y2 : Int) = (d1 : Int) from by omega]; exact wrap_n64 d1 (by omega)
        have e8 := wrap_add64 x d1 d hd.symm (by omega)
        obtain ⟨c', hc'⟩ : ∃ c', c' = c1 + 1 := ⟨_, rfl⟩
        have e9 : IntKind.u64.wrap ((c1 : Int) + 1) = (c' : Int) := wrap_add64 c1 1 c' hc'.symm (by omega)
        have e10 := wrap_n32 d (by omega)
        obtain ⟨F1, F2, F3, F4, F5⟩ := fin t d c' htl (by rw [← hc1, ← hy2, hc', Nat.add_sub_cancel_left]; omega) (by omega) (by omega)
        have hcb' : c' ≤ 1000000000 := by omega
        clear htl htb hc1 hy2 hc1b hxy hd1 hd hc' hxl fin
        go_wp2_with fail
        go_roundw
        case rel => exact ⟨k + 1, c', M.set (off + k) d, rfl, by go_num, by omega, hcb', F2, F1, F3, F4, F5, HO3.out.setN (off + k) d HIN.out, HK3.out.setCell (p := ⟨g, off + k, none⟩) (fun _ => rfl) _⟩
        case measure => simp [intOf]; omega
      · have hxy1 : ¬ (x : Int) < y2 := by omega
        obtain ⟨d, hd⟩ : ∃ d, d = x - y2 := ⟨_, rfl⟩
        have e7 : IntKind.u64.wrap ((x : Int) - (y2 : Int)) = (d : Int) := by rw [show (x : Int) - (y2 : Int) = (d : Int) from by omega]; exact wrap_n64 d (by omega)
        have e10 := wrap_n32 d (by omega)
        obtain ⟨F1, F2, F3, F4, F5⟩ := fin t d c1 htl (by rw [← hc1, ← hy2, Nat.sub_self]; omega) (by omega) (by omega)
        have hcb' : c1 ≤ 1000000000 := by omega
        clear htl htb hc1 hy2 hc1b hxy hd hxl fin
        go_wp2_with fail
        go_roundw
        case rel => exact ⟨k + 1, c1, M.set (off + k) d, rfl, by go_num, by omega, hcb', F2, F1, F3, F4, F5, HO3.out.setN (off + k) d HIN.out, HK3.out.setCell (p := ⟨g, off + k, none⟩) (fun _ => rfl) _⟩
        case measure => simp [intOf]; omega
  · obtain rfl : k = m := by omega
    have hV := HV.out
    rw [List.take_of_length_le hvm] at hV
    have HVV := Lib.hid hV
    have HO3 := Lib.hid ho
    have HK3 := Lib.hid hkp
    clear ho hkp hV
    by_cases hc0 : cy = 0
    · subst hc0
      go_wp2_with fail
      go_ret
      exact ⟨0, M, rfl, HO3.out, HK.out, HD.out, HTK.out, HDR.out, HVV.out, HK3.out⟩
    · have hc1 : (0 : Int) < cy := by omega
      have hc2 : decide (0 < cy) = true := by simp; omega
      have hc3 : decide ((0 : Int) < cy) = true := by simp; omega
      clear hc0
      go_wp2_with fail
      go_ret
      exact ⟨cy, M, by rw [hc2]; rfl, HO3.out, HK.out, HD.out, HTK.out, HDR.out, HVV.out, HK3.out⟩
end Go.Proofs.YtempdomhbfokmaaGreatDoor

namespace Go.Proofs.YtempdomhbfokmaaGreatDoor
open Go.RowKit

set_option maxRecDepth 100000 in
set_option maxHeartbeats 8000000 in
theorem more_any (w : World) (T : Nat → Prop) (g off m N cu : Nat) (L lv : List Nat) (v : Value) (hv : Dig w T v lv) (hT : ¬ T g) (hdv : digs lv) (hdL : digs L) (hLN : L.length = N) (hm : off + m ≤ N) (hN : N ≤ 1000000) (hcu : m ≤ cu) (hvm : lv.length ≤ m)
    (ho : Own w (fun x => x = g) 109 1 (.slice (some ⟨g, 0, none⟩) N N) N (ns L)) :
    Calls Tryz.prog 142 #[.slice (some ⟨g, off, none⟩) m cu, v] w fun e w' => ∃ (c : Nat) (L' : List Nat), e = .returned (.tuple #[]) ∧ Own w' (fun x => x = g) 109 1 (.slice (some ⟨g, 0, none⟩) N N) N (ns L') ∧ L'.length = N ∧ digs L' ∧ L'.take off = L.take off ∧ L'.drop (off + m) = L.drop (off + m) ∧ val ((L'.drop off).take m) + BB ^ m * c = val ((L.drop off).take m) + val lv ∧ Keeps (fun x => x = g) w w' := by
  obtain ⟨A2, c2, rfl, hr2, l2, m2, -⟩ := hv
  have HR2 := Lib.hid hr2
  have HDV := Lib.hid hdv
  have HDL := Lib.hid hdL
  have HLN := Lib.hid hLN
  have HO := Lib.hid ho
  have HT := Lib.hid hT
  clear hr2 hdv hdL hLN ho hT
  go_enter Tryz.func142, Tryz.ntmps142
  go_wp2_with fail
  go_loopw [4, 9] (fun cv i wr => ∃ (k cy : Nat) (M : List Nat), cv = .int .u32 cy ∧ i = .int .i64 k ∧ k ≤ m ∧ cy ≤ 1 ∧ Hid (M.length = N) ∧ Hid (digs M) ∧ Hid (M.take off = L.take off) ∧ Hid (M.drop (off + k) = L.drop (off + k)) ∧ Hid (val ((M.drop off).take k) + BB ^ k * cy = val ((L.drop off).take k) + val (lv.take k)) ∧ Own wr (fun x => x = g) 109 1 (.slice (some ⟨g, 0, none⟩) N N) N (ns M) ∧ Keeps (fun x => x = g) w wr) (fun _ i _ => m - (intOf i).toNat)
  case atStart => exact ⟨0, 0, L, rfl, rfl, by omega, by omega, HLN, HDL, Lib.hid rfl, Lib.hid rfl, Lib.hid (by simp [val]), HO.out, Keeps.refl _ _⟩
  obtain ⟨k, cy, M, rfl, rfl, hk, hcy, HK, HD, HTK, HDR, HV, ho, hkp⟩ := hrel
  by_cases hlt : k < m
  · have hin : off + k < N := by omega
    have hcg := ho.getN (off + k) hin HK.out
    have hfg := ho.unfrozen (off + k)
    have hxl := digs_get HD.out (off + k) (by rw [HK.out]; exact hin)
    have HXG : Hid ((L.drop off).getD k 0 = M[off + k]'(by rw [HK.out]; exact hin)) := Lib.hid (by
      rw [drop_getD, ← (same_drop HDR.out).1]; exact getD_of_lt _)
    obtain ⟨x, hx⟩ : ∃ x, x = M[off + k]'(by rw [HK.out]; exact hin) := ⟨_, rfl⟩
    rw [← hx] at hcg hxl HXG
    unfold BB at hxl
    have hk1 : (k : Int) < m := by omega
    obtain ⟨s1, hs1⟩ : ∃ s1, s1 = x + cy := ⟨_, rfl⟩
    have e1 := wrap_add32 x cy s1 hs1.symm (by omega)
    have HO3 := Lib.hid ho
    have HK3 := Lib.hid hkp
    have HIN := Lib.hid hin
    have fin : ∀ (s : Nat), s = s1 + lv.getD k 0 → Hid (digs (M.set (off + k) (s % 1000000000))) ∧ Hid ((M.set (off + k) (s % 1000000000)).length = N) ∧ Hid ((M.set (off + k) (s % 1000000000)).take off = L.take off) ∧ Hid ((M.set (off + k) (s % 1000000000)).drop (off + (k + 1)) = L.drop (off + (k + 1))) ∧ Hid (val (((M.set (off + k) (s % 1000000000)).drop off).take (k + 1)) + BB ^ (k + 1) * (s / 1000000000) = val ((L.drop off).take (k + 1)) + val (lv.take (k + 1))) := by
      intro s h1
      refine ⟨digs_set HD.out _ (Nat.mod_lt _ (by decide)), (by show _ = _; rw [List.length_set]; exact HK.out), (by show _ = _; rw [take_set_add]; exact HTK.out), (by show _ = _; rw [List.drop_set_of_lt (by omega)]; exact (same_drop HDR.out).2), ?_⟩
      show _ = _
      rw [drop_set_add]
      exact more_step (L.drop off) lv (M.drop off) k cy s (by rw [List.length_drop, HK.out]; omega) (by rw [HXG.out]; omega) HV.out
    by_cases hlt2 : k < lv.length
    · have hrb := (HR2.out.keeps HK3.out (fun i hi e => HT.out (by rw [← e]; exact hi)))
      obtain ⟨bd, y0, rfl, -, -, hy0, hcb⟩ := hrb.at_ hlt2
      rw [ns_get lv k hlt2] at hy0
      injection hy0 with hy0
      subst hy0
      have hyl := digs_get HDV.out k hlt2
      have HYG : Hid (lv.getD k 0 = lv[k]) := Lib.hid (getD_of_lt hlt2)
      obtain ⟨y, hy⟩ : ∃ y, y = lv[k] := ⟨_, rfl⟩
      rw [← hy] at hcb HYG hyl
      have hk2 : (k : Int) < lv.length := by omega
      unfold BB at hyl
      obtain ⟨s, hs⟩ : ∃ s, s = s1 + y := ⟨_, rfl⟩
      have e2 := wrap_add32 s1 y s hs.symm (by omega)
      have htl : s = s1 + lv.getD k 0 := by rw [HYG.out, hs]
      have hsb : s < 2000000000 := by omega
      clear hy hrb hs hyl
      obtain ⟨e3, e4⟩ := base_div s (by omega)
      obtain ⟨F1, F2, F3, F4, F5⟩ := fin s htl
      obtain ⟨q, hq⟩ : ∃ q, q = s / 1000000000 := ⟨_, rfl⟩
      obtain ⟨r, hr⟩ : ∃ r, r = s % 1000000000 := ⟨_, rfl⟩
      rw [← hq] at e3 F5
      rw [← hr] at e4 F1 F2 F3 F4 F5
      have e5 := wrap_n32 q (by omega)
      have e6 := wrap_n32 r (by omega)
      have hqb : q ≤ 1 := by omega
      clear htl hq hr hxl fin hx ho hkp hin hsb hs1
      go_wp2_with fail
      go_roundw
      case rel => exact ⟨k + 1, q, M.set (off + k) r, rfl, by go_num, by omega, hqb, F2, F1, F3, F4, F5, HO3.out.setN (off + k) r HIN.out, HK3.out.setCell (p := ⟨g, off + k, none⟩) (fun _ => rfl) _⟩
      case measure => simp [intOf]; omega
    · have HYG : Hid (lv.getD k 0 = 0) := Lib.hid (getD_of_ge (by omega))
      have hk2 : ¬ (k : Int) < lv.length := by omega
      obtain ⟨s, hs⟩ : ∃ s, s = s1 := ⟨_, rfl⟩
      have htl : s = s1 + lv.getD k 0 := by rw [HYG.out, hs]; omega
      have hsb : s < 2000000000 := by omega
      obtain rfl := hs
      obtain ⟨e3, e4⟩ := base_div s (by omega)
      obtain ⟨F1, F2, F3, F4, F5⟩ := fin s htl
      obtain ⟨q, hq⟩ : ∃ q, q = s / 1000000000 := ⟨_, rfl⟩
      obtain ⟨r, hr⟩ : ∃ r, r = s % 1000000000 := ⟨_, rfl⟩
      rw [← hq] at e3 F5
      rw [← hr] at e4 F1 F2 F3 F4 F5
      have e5 := wrap_n32 q (by omega)
      have e6 := wrap_n32 r (by omega)
      have hqb : q ≤ 1 := by omega
      clear htl hq hr hxl fin hx ho hkp hin hsb hs1
      go_wp2_with fail
      go_roundw
      case rel => exact ⟨k + 1, q, M.set (off + k) r, rfl, by go_num, by omega, hqb, F2, F1, F3, F4, F5, HO3.out.setN (off + k) r HIN.out, HK3.out.setCell (p := ⟨g, off + k, none⟩) (fun _ => rfl) _⟩
      case measure => simp [intOf]; omega
  · obtain rfl : k = m := by omega
    have hV := HV.out
    rw [List.take_of_length_le hvm] at hV
    have HVV := Lib.hid hV
    have HO3 := Lib.hid ho
    have HK3 := Lib.hid hkp
    clear ho hkp hV
    go_wp2_with fail
    go_end0
    exact ⟨cy, M, rfl, HO3.out, HK.out, HD.out, HTK.out, HDR.out, HVV.out, HK3.out⟩
end Go.Proofs.YtempdomhbfokmaaGreatDoor

namespace Go.Proofs.YtempdomhbfokmaaGreatDoor
open Go.RowKit

theorem drop_two (l : List Nat) (k : Nat) (h : l.length = k + 2) : l.drop k = [l[k], l[k + 1]] := by
  rw [List.drop_eq_getElem_cons (by omega), List.drop_eq_getElem_cons (by omega), List.drop_of_length_le (by omega)]
theorem drop_three (l : List Nat) (k : Nat) (h : l.length = k + 3) : l.drop k = [l[k], l[k + 1], l[k + 2]] := by
  rw [List.drop_eq_getElem_cons (by omega), List.drop_eq_getElem_cons (by omega), List.drop_eq_getElem_cons (by omega), List.drop_of_length_le (by omega)]
theorem val_head2 (l : List Nat) (k : Nat) (hd : digs l) (h : l.length = k + 2) : ∃ r, val l = r + BB ^ k * (l[k + 1] * BB + l[k]) ∧ r < BB ^ k := by
  refine ⟨val (l.take k), ?_, ?_⟩
  · have := val_split l k (by omega)
    rw [drop_two l k h] at this
    simp only [val, Nat.mul_zero, Nat.add_zero] at this
    rw [this, Nat.add_comm l[k], Nat.mul_comm BB]
  · have := val_lt (l.take k) (digs_take hd k)
    rwa [List.length_take, Nat.min_eq_left (by omega)] at this
theorem val_head3 (l : List Nat) (k : Nat) (hd : digs l) (h : l.length = k + 3) : ∃ r, val l = r + BB ^ k * ((l[k + 2] * BB + l[k + 1]) * BB + l[k]) ∧ r < BB ^ k := by
  refine ⟨val (l.take k), ?_, ?_⟩
  · have := val_split l k (by omega)
    rw [drop_three l k h] at this
    simp only [val, Nat.mul_zero, Nat.add_zero] at this
    rw [this]
    congr 2
    rw [Nat.mul_add, Nat.add_mul, Nat.mul_comm BB l[k + 1], Nat.mul_comm BB, Nat.mul_comm BB]
    omega
  · have := val_lt (l.take k) (digs_take hd k)
    rwa [List.length_take, Nat.min_eq_left (by omega)] at this
theorem val_head1 (l : List Nat) (k : Nat) (hd : digs l) (h : l.length = k + 1) : ∃ r, val l = r + BB ^ k * l[k] ∧ r < BB ^ k := by
  refine ⟨val (l.take k), ?_, ?_⟩
  · have := val_split l k (by omega)
    rw [List.drop_eq_getElem_cons (by omega), List.drop_of_length_le (by omega)] at this
    simp only [val, Nat.mul_zero, Nat.add_zero] at this
    exact this
  · have := val_lt (l.take k) (digs_take hd k)
    rwa [List.length_take, Nat.min_eq_left (by omega)] at this

/-- the first trial -/
theorem trial_first (W lv : List Nat) (m : Nat) (hW : W.length = m + 3) (hl : lv.length = m + 2) (dW : digs W) (dl : digs lv) (hv : 0 < lv[m + 1]) (hU : val W < BB * val lv) :
    val W / val lv ≤ min ((W[m + 2] * BB + W[m + 1]) / lv[m + 1]) (BB - 1) := by
  obtain ⟨r1, e1, f1⟩ := val_head2 W (m + 1) dW (by omega)
  obtain ⟨r2, e2, f2⟩ := val_head1 lv (m + 1) dl (by omega)
  have hV : 0 < val lv := by
    rw [e2]
    have : 0 < BB ^ (m + 1) * lv[m + 1] := Nat.mul_pos (Nat.pow_pos BB_pos) hv
    omega
  refine Nat.le_min.2 ⟨?_, ?_⟩
  · rw [Nat.le_div_iff_mul_le hv]
    exact digit_low (val W) (val lv) _ _ _ r1 r2 (BB ^ (m + 1)) e1 f1 e2 (Nat.div_mul_le_self _ _)
  · have : val W / val lv < BB := (Nat.div_lt_iff_lt_mul hV).2 hU
    omega
/-- a trial that fails the second test is too great -/
theorem trial_less (W lv : List Nat) (m q r : Nat) (hW : W.length = m + 3) (hl : lv.length = m + 2) (dW : digs W) (dl : digs lv) (hq : q * lv[m + 1] + r = W[m + 2] * BB + W[m + 1]) (ht : r * BB + W[m] < q * lv[m]) : val W / val lv ≤ q - 1 := by
  rcases Nat.lt_or_ge (val W / val lv) q with h | h
  · omega
  · exfalso
    have hq2 : q * val lv ≤ val W := Nat.le_trans (Nat.mul_le_mul_right _ h) (Nat.div_mul_le_self _ _)
    obtain ⟨r1, e1, f1⟩ := val_head3 W m dW (by omega)
    obtain ⟨r2, e2, f2⟩ := val_head2 lv m dl (by omega)
    have := digit_low (val W) (val lv) q _ _ r1 r2 (BB ^ m) e1 f1 e2 hq2
    rw [← hq, Nat.mul_add, ← Nat.mul_assoc, Nat.add_mul] at this
    omega
/-- a trial that passes it is at most one too great -/
theorem trial_last (W lv : List Nat) (m q r : Nat) (hW : W.length = m + 3) (hl : lv.length = m + 2) (dW : digs W) (dl : digs lv) (hv : 0 < lv[m + 1]) (hqB : q < BB) (hq : q * lv[m + 1] + r = W[m + 2] * BB + W[m + 1]) (ht : q * lv[m] ≤ r * BB + W[m]) : q * val lv ≤ val W + val lv := by
  obtain ⟨r1, e1, f1⟩ := val_head3 W m dW (by omega)
  obtain ⟨r2, e2, f2⟩ := val_head2 lv m dl (by omega)
  refine digit_high (val W) (val lv) q ((W[m + 2] * BB + W[m + 1]) * BB + W[m]) (lv[m + 1] * BB + lv[m]) r2 (BB ^ m) (by omega) e2 f2 ?_ ?_
  · have : 1 * BB ≤ lv[m + 1] * BB := Nat.mul_le_mul_right _ hv
    omega
  · rw [← hq, Nat.mul_add, ← Nat.mul_assoc, Nat.add_mul]
    omega
theorem digit_end0 (U V q U' P : Nat) (hV : 0 < V) (h : U + P * 0 = U' + q * V) (hb : U / V ≤ q) : q = U / V ∧ U' = U % V := by
  have h1 : q * V ≤ U := by omega
  have h2 : q ≤ U / V := (Nat.le_div_iff_mul_le hV).2 h1
  have h3 : q = U / V := by omega
  refine ⟨h3, ?_⟩
  have h4 := Nat.div_add_mod U V
  rw [← h3, Nat.mul_comm] at h4
  omega
theorem digit_end1 (U V q U' U'' P c c2 : Nat) (hV : 0 < V) (hU'' : U'' < P) (hUP : U < P) (hU' : U' < P) (h : U + P * c = U' + q * V) (hc : 0 < c) (h2 : U'' + P * c2 = U' + V) (hq : q * V ≤ U + V) (hb : U / V ≤ q) : 1 ≤ q ∧ q - 1 = U / V ∧ U'' = U % V := by
  have hcP : P * 1 ≤ P * c := Nat.mul_le_mul_left _ hc
  have h1 : U < q * V := by omega
  have hq1 : 1 ≤ q := by
    rcases Nat.eq_zero_or_pos q with e | e
    · rw [e] at h1; omega
    · exact e
  obtain ⟨p, rfl⟩ : ∃ p, q = p + 1 := ⟨q - 1, by omega⟩
  rw [Nat.succ_mul] at h1 hq h
  have h3 : p ≤ U / V := (Nat.le_div_iff_mul_le hV).2 (by omega)
  have h4 : U / V < p + 1 := (Nat.div_lt_iff_lt_mul hV).2 (by rw [Nat.succ_mul]; exact h1)
  have h5 : p = U / V := by omega
  have h6 := Nat.div_add_mod U V
  rw [← h5, Nat.mul_comm] at h6
  have h7 := Nat.mod_lt U hV
  have h8 : U'' + P * c2 = U % V + P * c := by omega
  refine ⟨by omega, by omega, ?_⟩
  have e1 : (U'' + P * c2) % P = U'' := by rw [Nat.add_mul_mod_self_left, Nat.mod_eq_of_lt hU'']
  have e2 : (U % V + P * c) % P = U % V := by rw [Nat.add_mul_mod_self_left, Nat.mod_eq_of_lt (by omega)]
  rw [← e1, h8, e2]
theorem trial_pack (W lv : List Nat) (m : Nat) (hW : W.length = m + 3) (hl : lv.length = m + 2) (dW : digs W) (dl : digs lv) (hv : 0 < lv[m + 1]) (hU : val W < BB * val lv) (x2 x1 x0 y1 y0 : Nat) (h2 : x2 = W[m + 2]) (h1 : x1 = W[m + 1]) (h0 : x0 = W[m]) (g1 : y1 = lv[m + 1]) (g0 : y0 = lv[m]) :
    (val W / val lv ≤ min ((x2 * 1000000000 + x1) / y1) 999999999) ∧ (∀ q r, q * y1 + r = x2 * 1000000000 + x1 → r * 1000000000 + x0 < q * y0 → val W / val lv ≤ q - 1) ∧
    (∀ q r, q < 1000000000 → q * y1 + r = x2 * 1000000000 + x1 → q * y0 ≤ r * 1000000000 + x0 → q * val lv ≤ val W + val lv) ∧ 0 < y1 := by
  subst h2 h1 h0 g1 g0
  exact ⟨trial_first W lv m hW hl dW dl hv hU, fun q r => trial_less W lv m q r hW hl dW dl, fun q r => trial_last W lv m q r hW hl dW dl hv, hv⟩
end Go.Proofs.YtempdomhbfokmaaGreatDoor

/- nat: digit. nat: Div; its loop in plain words. nat: Div. -/
import Derived.Test.YtempdomhbfokmaaGreatDoorMz38
import Derived.BigGuard
namespace Go.Proofs.YtempdomhbfokmaaGreatDoor
open Go.RowKit

theorem window_get (L : List Nat) (off n k : Nat) (h : k < n) (h2 : off + n ≤ L.length) : ((L.drop off).take n)[k]'(by rw [List.length_take, List.length_drop]; omega) = L[off + k] := by
  rw [List.getElem_take, List.getElem_drop]
theorem window_len (L : List Nat) (off n : Nat) (h2 : off + n ≤ L.length) : ((L.drop off).take n).length = n := by rw [List.length_take, List.length_drop]; omega
theorem Dig.keepsW {w w' : World} {T S : Nat → Prop} {v : Value} {l : List Nat} (h : Dig w T v l) (hk : Keeps S w w') (hs : ∀ i, T i → ¬ S i) : Dig w' T v l := h.keeps hk hs

set_option maxRecDepth 100000 in
set_option maxHeartbeats 8000000 in
theorem digit_any (w : World) (T : Nat → Prop) (g off m N cu : Nat) (L lv : List Nat) (v : Value) (hv : Dig w T v lv) (hT : ¬ T g) (hdv : digs lv) (hdL : digs L) (hLN : L.length = N) (hm : off + (m + 3) ≤ N) (hN : N ≤ 1000000) (hcu : m + 3 ≤ cu) (hvl : lv.length = m + 2) (hv0 : 0 < lv[m + 1])
    (hU : val ((L.drop off).take (m + 3)) < BB * val lv)
    (ho : Own w (fun x => x = g) 109 1 (.slice (some ⟨g, 0, none⟩) N N) N (ns L)) :
    Calls Tryz.prog 105 #[.slice (some ⟨g, off, none⟩) (m + 3) cu, v] w fun e w' => ∃ (L' : List Nat), e = .returned (.int .u64 ((val ((L.drop off).take (m + 3)) / val lv : Nat) : Int)) ∧ Own w' (fun x => x = g) 109 1 (.slice (some ⟨g, 0, none⟩) N N) N (ns L') ∧ L'.length = N ∧ digs L' ∧ L'.take off = L.take off ∧ L'.drop (off + (m + 3)) = L.drop (off + (m + 3)) ∧ val ((L'.drop off).take (m + 3)) = val ((L.drop off).take (m + 3)) % val lv ∧ Keeps (fun x => x = g) w w' := by
  have HW := Lib.hid (window_len L off (m + 3) (by omega))
  have HDW := Lib.hid (digs_take (digs_drop hdL off) (m + 3))
  have hc2 := ho.getN (off + (m + 2)) (by omega) hLN
  have hc1 := ho.getN (off + (m + 1)) (by omega) hLN
  have hc0 := ho.getN (off + m) (by omega) hLN
  have w2 := window_get L off (m + 3) (m + 2) (by omega) (by omega)
  have w1 := window_get L off (m + 3) (m + 1) (by omega) (by omega)
  have w0 := window_get L off (m + 3) m (by omega) (by omega)
  rw [← w2] at hc2
  rw [← w1] at hc1
  rw [← w0] at hc0
  clear w0 w1 w2
  obtain ⟨x2, hx2⟩ : ∃ x, x = ((L.drop off).take (m + 3))[m + 2]'(by rw [HW.out]; omega) := ⟨_, rfl⟩
  obtain ⟨x1, hx1⟩ : ∃ x, x = ((L.drop off).take (m + 3))[m + 1]'(by rw [HW.out]; omega) := ⟨_, rfl⟩
  obtain ⟨x0, hx0⟩ : ∃ x, x = ((L.drop off).take (m + 3))[m]'(by rw [HW.out]; omega) := ⟨_, rfl⟩
  obtain ⟨y1, hy1⟩ : ∃ x, x = lv[m + 1] := ⟨_, rfl⟩
  obtain ⟨y0, hy0⟩ : ∃ x, x = lv[m]'(by omega) := ⟨_, rfl⟩
  obtain ⟨htf, htl, hte, hv1⟩ := trial_pack _ lv m HW.out hvl HDW.out hdv hv0 hU x2 x1 x0 y1 y0 hx2 hx1 hx0 hy1 hy0
  have HTF := Lib.hid htf
  have HTL := Lib.hid htl
  have HTE := Lib.hid hte
  clear htf htl hte
  rw [← hx2] at hc2
  rw [← hx1] at hc1
  rw [← hx0] at hc0
  have HU2 := digs_get HDW.out (m + 2) (by rw [HW.out]; omega)
  rw [← hx2] at HU2
  have HU1 := digs_get HDW.out (m + 1) (by rw [HW.out]; omega)
  rw [← hx1] at HU1
  have HU0 := digs_get HDW.out m (by rw [HW.out]; omega)
  rw [← hx0] at HU0
  have HLT := Lib.hid (val_lt _ HDW.out)
  rw [HW.out] at HLT
  have HV := Lib.hid hv
  have HVD := Lib.hid hdv
  have HVL := Lib.hid hvl
  have HV0 := Lib.hid hv0
  have HLD := Lib.hid hdL
  have HLN := Lib.hid hLN
  have HO := Lib.hid ho
  have HT := Lib.hid hT
  have HVP : Hid (0 < val lv) := Lib.hid (by
    obtain ⟨r2, e2, f2⟩ := val_head1 lv (m + 1) hdv (by omega)
    rw [e2]
    have : 0 < BB ^ (m + 1) * lv[m + 1] := Nat.mul_pos (Nat.pow_pos BB_pos) hv0
    omega)
  obtain ⟨A2, c2, rfl, hr2, l2, m2, -⟩ := hv
  obtain ⟨bd, yy1, rfl, -, -, hy1', hb1⟩ := hr2.at_ (k := m + 1) (by omega)
  obtain ⟨bd', yy0, e, -, -, hy0', hb0⟩ := hr2.at_ (k := m) (by omega)
  injection e with e
  subst e
  rw [ns_get lv (m + 1) (by omega), ← hy1] at hy1'
  rw [ns_get lv m (by omega), ← hy0] at hy0'
  injection hy1' with hy1'
  injection hy0' with hy0'
  subst hy1'
  subst hy0'
  have HV1 := digs_get hdv (m + 1) (by omega)
  have HVV0 := digs_get hdv m (by omega)
  rw [← hy1] at HV1
  rw [← hy0] at HVV0
  clear hU hr2 hv0 hdv hdL ho hT hx2 hx1 hx0 hy1 hy0
  unfold BB at HU2 HU1 HU0 HV1 HVV0
  rw [hvl] at HV l2 ⊢
  obtain ⟨p1, hp1⟩ : ∃ p1, p1 = x2 * 1000000000 := ⟨_, rfl⟩
  obtain ⟨top, htop⟩ : ∃ top, top = p1 + x1 := ⟨_, rfl⟩
  have htb : top < 1000000000 * 1000000000 := by omega
  obtain ⟨q0, hq0⟩ : ∃ q0, q0 = top / y1 := ⟨_, rfl⟩
  have hq0t : q0 ≤ top := by rw [hq0]; exact Nat.div_le_self _ _
  have e0 := wrap_n64 x2 (by omega)
  have e1 := wrap_n64 x1 (by omega)
  have e2 := wrap_n64 x0 (by omega)
  have e3 := wrap_n64 y1 (by omega)
  have e4 := wrap_n64 y0 (by omega)
  have e5 : IntKind.u64.wrap ((x2 : Int) * 1000000000) = (p1 : Int) := wrap_mul64 x2 1000000000 p1 hp1.symm (by omega)
  have e6 := wrap_add64 p1 x1 top htop.symm (by omega)
  have e7 : (top : Int).tdiv (y1 : Int) = (q0 : Int) := by rw [Int.tdiv_eq_ediv_of_nonneg (by omega), hq0]; rfl
  have e8 := wrap_n64 q0 (by omega)
  have e9 : ¬ (y1 : Int) = 0 := by omega
  have e10 : wrap64 ((m : Int) + 2 - 1) = (m : Int) + 1 := by rw [show (m : Int) + 2 - 1 = (m : Int) + 1 from by omega]; exact IntWalk.wrap64_in _ ⟨by omega, by omega⟩
  have e11 : wrap64 ((m : Int) + 2 - 2) = (m : Int) := by rw [show (m : Int) + 2 - 2 = (m : Int) from by omega]; exact IntWalk.wrap64_in _ ⟨by omega, by omega⟩
  have hb1' : w.cell? ⟨bd.block, bd.off + (m + 1), none⟩ = some (.int .u32 y1) := by simpa [Addr.add] using hb1
  have HQ0 := Lib.hid hq0
  have HTP := Lib.hid htop
  have HP1 := Lib.hid hp1
  clear hp1 htop hq0
  go_enter Tryz.func105, Tryz.ntmps105
  go_wp2_with fail
  go_quiet (fail)
  obtain ⟨q1, hq1⟩ : ∃ q1, q1 = min q0 999999999 := ⟨_, rfl⟩
  go_upto_region 3 with (fail)
  go_cut [7] (fun qv wc => wc = w.drewN nq ∧ qv = .int .u64 q1)
  case first =>
    by_cases hle : q0 ≤ 999999999
    · have hle1 : (q0 : Int) ≤ 999999999 := by omega
      have hle2 : ¬ (999999999 : Int) < q0 := by omega
      have hqq : q1 = q0 := by omega
      have HQQ := Lib.hid hqq
      clear hle hq1 hqq
      go_wp2_with fail
      go_meet
      exact ⟨rfl, by rw [HQQ.out]⟩
    · have hle1 : ¬ (q0 : Int) ≤ 999999999 := by omega
      have hle2 : (999999999 : Int) < q0 := by omega
      have hqq : q1 = 999999999 := by omega
      have HQQ := Lib.hid hqq
      clear hle hq1 hqq
      go_wp2_with fail
      go_meet
      exact ⟨rfl, by rw [HQQ.out]; rfl⟩
  obtain ⟨rfl, rfl⟩ := hcut
  have hq0 := HQ0.out
  have htop := HTP.out
  have hp1 := HP1.out
  obtain ⟨s1, hs1⟩ : ∃ s1, s1 = q1 * y1 := ⟨_, rfl⟩
  have hs1t : s1 ≤ top := by
    rw [hs1]
    refine Nat.le_trans (Nat.mul_le_mul_right _ (show q1 ≤ q0 by omega)) ?_
    rw [hq0]
    exact Nat.div_mul_le_self _ _
  obtain ⟨r1, hr1⟩ : ∃ r1, r1 = top - s1 := ⟨_, rfl⟩
  have k1 := wrap_mul64 q1 y1 s1 hs1.symm (by omega)
  have k2 : IntKind.u64.wrap ((top : Int) - (s1 : Int)) = (r1 : Int) := by rw [show (top : Int) - (s1 : Int) = (r1 : Int) from by omega]; exact wrap_n64 r1 (by omega)
  have hqe : q1 * y1 + r1 = top := by omega
  have hqB : q1 < 1000000000 := by omega
  have HQE := Lib.hid hqe
  have HQF : Hid (val ((L.drop off).take (m + 3)) / val lv ≤ q1) := Lib.hid (by rw [hq1, hq0, htop, hp1]; exact HTF.out)
  have HTOP : Hid (top = x2 * 1000000000 + x1) := Lib.hid (by rw [htop, hp1])
  clear hq1 hq0 hs1 hr1 hs1t hqe htop hp1
  go_wp2_with fail
  go_loopw [7, 8] (fun qv rv wr => ∃ (q r n : Nat), qv = .int .u64 q ∧ rv = .int .u64 r ∧ wr = w.drewN n ∧ q < 1000000000 ∧ Hid (q * y1 + r = top) ∧ Hid (val ((L.drop off).take (m + 3)) / val lv ≤ q)) (fun _ rv _ => 1000000000 - (intOf rv).toNat)
  case atStart => exact ⟨q1, r1, nq, rfl, rfl, rfl, hqB, HQE.out, HQF.out⟩
  obtain ⟨q, r, n, rfl, rfl, rfl, hqb, HQ, HF⟩ := hrel
  have hrt : r ≤ top := by have := HQ.out; have h2 := Nat.zero_le (q * y1); omega
  by_cases hr9 : r < 1000000000
  · have hr9i : (r : Int) < 1000000000 := by omega
    have g1 : decide ((r : Int) < 1000000000) = true := by simp; omega
    obtain ⟨p2, hp2⟩ : ∃ p2, p2 = q * y0 := ⟨_, rfl⟩
    have hp2b := mul_lt_sq2 q y0 hqb HVV0
    rw [← hp2] at hp2b
    obtain ⟨p3, hp3⟩ : ∃ p3, p3 = r * 1000000000 := ⟨_, rfl⟩
    obtain ⟨s2, hs2⟩ : ∃ s2, s2 = p3 + x0 := ⟨_, rfl⟩
    have b1 := wrap_mul64 q y0 p2 hp2.symm (by omega)
    have b2 : IntKind.u64.wrap ((r : Int) * 1000000000) = (p3 : Int) := wrap_mul64 r 1000000000 p3 hp3.symm (by omega)
    have b3 := wrap_add64 p3 x0 s2 hs2.symm (by omega)
    by_cases hgt : s2 < p2
    · have hgti : (s2 : Int) < p2 := by omega
      have g2 : decide ((s2 : Int) < (p2 : Int)) = true := by simp; omega
      obtain ⟨r', hr'⟩ : ∃ r', r' = r + y1 := ⟨_, rfl⟩
      have b4 := wrap_add64 r y1 r' hr'.symm (by omega)
      have hq1' : 1 ≤ q := by
        rcases Nat.eq_zero_or_pos q with h | h
        · rw [h, Nat.zero_mul] at hp2; omega
        · exact h
      obtain ⟨q', hq'⟩ : ∃ q', q = q' + 1 := ⟨q - 1, by omega⟩
      have b5 : IntKind.u64.wrap ((q : Int) - 1) = (q' : Int) := by rw [show (q : Int) - 1 = (q' : Int) from by omega]; exact wrap_n64 q' (by omega)
      have HF2 := Lib.hid (HTL.out q r (by rw [← HTOP.out]; exact HQ.out) (by rw [← hp3, ← hp2, ← hs2]; exact hgt))
      have HQ' := Lib.hid hq'
      have HR' := Lib.hid hr'
      clear hr9 hgt hp2 hp3 hs2 hp2b hr' hq' hq1' hrt
      go_wp2_with fail
      go_quiet (fail)
      go_wp2_with fail
      go_roundw
      case rel =>
        refine ⟨q', r', _, rfl, rfl, rfl, by have := HQ'.out; omega, ?_, ?_⟩
        · show q' * y1 + r' = top
          have h1 := HQ.out
          rw [HQ'.out, Nat.succ_mul] at h1
          rw [HR'.out]; omega
        · show _ ≤ q'
          have h1 := HF2.out
          rw [HQ'.out] at h1
          exact h1
      case measure => simp only [intOf]; have := HR'.out; omega
    · have hgti : ¬ (s2 : Int) < p2 := by omega
      have g2 : decide ((s2 : Int) < (p2 : Int)) = false := by simp; omega
      have hcond : q * y0 ≤ r * 1000000000 + x0 := by rw [← hp2, ← hp3, ← hs2]; omega
      have HCOND := Lib.hid hcond
      clear hcond hr9 hgt hp2 hp3 hs2 hp2b hrt
      go_wp2_with fail
      go_quiet (fail)
      rw [World.drewN_drewN]
      clear hr9i g1 b1 b2 b3
      have hcond := HCOND.out
      have HLE := Lib.hid (less_any (w.drewN (n + nq)) T g off (m + 3) N cu L lv _ q (HV.out.drewN (n + nq)) HT.out HVD.out HLD.out hLN hm hN hcu hqb (by rw [hvl]; omega) (HO.out.drewN (n + nq)))
      have HQC := Lib.hid (HTE.out q r hqb (by rw [← HTOP.out]; exact HQ.out) hcond)
      have j1 : IntKind.u64.wrap ((q : Int) - 1) = (q : Int) - 1 ∨ q = 0 := by
        rcases Nat.eq_zero_or_pos q with h | h
        · exact Or.inr h
        · exact Or.inl (IntWalk.u64_in _ ⟨by omega, by omega⟩)
      have J1 := Lib.hid j1
      clear hcond j1
      go_wp2_with fail
      refine HLE.out.mono ?_
      rintro e w2 ⟨c, L1, rfl, ho1, hl1, hd1, ht1, hr1, hv1, hk1⟩
      have HO1 := Lib.hid ho1
      have HL1 := Lib.hid hl1
      have HD1 := Lib.hid hd1
      have HT1 := Lib.hid ht1
      have HR1 := Lib.hid hr1
      have HV1' := Lib.hid hv1
      have HK1 := Lib.hid hk1
      clear ho1 hl1 hd1 ht1 hr1 hv1 hk1
      by_cases hc : c = 0
      · subst hc
        have hdc : decide (0 < 0) = false := rfl
        obtain ⟨f1, f2⟩ := digit_end0 _ _ q _ _ HVP.out HV1'.out HF.out
        have F1 := Lib.hid f1
        have F2 := Lib.hid f2
        clear f1 f2
        go_wp2_with fail
        go_ret
        exact ⟨L1, by rw [← F1.out]; rfl, HO1.out, HL1.out, HD1.out, HT1.out, HR1.out, F2.out, ((Keeps.refl (fun x => x = g) w).drewN (n + nq)).tr HK1.out⟩
      · have hdc : decide (0 < c) = true := by simp; omega
        have HC := Lib.hid (show 0 < c by omega)
        have HMO := Lib.hid (more_any w2 T g off (m + 3) N cu L1 lv _ ((HV.out.drewN (n + nq)).keeps HK1.out (fun i hi e => HT.out (by rw [← e]; exact hi))) HT.out HVD.out HD1.out HL1.out hm hN hcu (by rw [hvl]; omega) HO1.out)
        have hq1' : 1 ≤ q := by
          rcases Nat.eq_zero_or_pos q with h | h
          · exfalso
            have := HV1'.out
            rw [h, Nat.zero_mul, Nat.add_zero] at this
            have h2 := val_lt _ (digs_take (digs_drop HD1.out off) (m + 3))
            rw [window_len L1 off (m + 3) (by rw [HL1.out]; exact hm)] at h2
            have h3 : BB ^ (m + 3) * 1 ≤ BB ^ (m + 3) * c := Nat.mul_le_mul_left _ HC.out
            omega
          · exact h
        obtain ⟨q', hq'⟩ : ∃ q', q = q' + 1 := ⟨q - 1, by omega⟩
        have j2 : IntKind.u64.wrap ((q : Int) - 1) = (q' : Int) := by rw [show (q : Int) - 1 = (q' : Int) from by omega]; exact wrap_n64 q' (by omega)
        have HQ' := Lib.hid hq'
        clear hc hq1' hq'
        go_wp2_with fail
        refine HMO.out.mono ?_
        rintro e w3 ⟨c3, L3, rfl, ho3, hl3, hd3, ht3, hr3, hv3, hk3⟩
        obtain ⟨f0, f1, f2⟩ := digit_end1 _ _ q _ _ _ c c3 HVP.out (by have h2 := val_lt _ (digs_take (digs_drop hd3 off) (m + 3)); rwa [window_len L3 off (m + 3) (by rw [hl3]; exact hm)] at h2) HLT.out (by have h2 := val_lt _ (digs_take (digs_drop HD1.out off) (m + 3)); rwa [window_len L1 off (m + 3) (by rw [HL1.out]; exact hm)] at h2) HV1'.out HC.out hv3 HQC.out HF.out
        have HE : Hid (∃ (L' : List Nat), (q' : Nat) = val ((L.drop off).take (m + 3)) / val lv ∧ Own w3 (fun x => x = g) 109 1 (.slice (some ⟨g, 0, none⟩) N N) N (ns L') ∧ L'.length = N ∧ digs L' ∧ L'.take off = L.take off ∧ L'.drop (off + (m + 3)) = L.drop (off + (m + 3)) ∧ val ((L'.drop off).take (m + 3)) = val ((L.drop off).take (m + 3)) % val lv ∧ Keeps (fun x => x = g) w w3) := Lib.hid ⟨L3, by have := HQ'.out; omega, ho3, hl3, hd3, ht3.trans HT1.out, hr3.trans HR1.out, f2, (((Keeps.refl (fun x => x = g) w).drewN (n + nq)).tr HK1.out).tr hk3⟩
        clear ho3 hl3 hd3 ht3 hr3 hv3 hk3 f0 f1 f2
        go_wp2_with fail
        go_ret
        obtain ⟨L', z1, z2⟩ := HE.out
        exact ⟨L', by rw [← z1]; rfl, z2⟩
  · have hr9i : ¬ (r : Int) < 1000000000 := by omega
    have g1 : decide ((r : Int) < 1000000000) = false := by simp; omega
    have hcond : q * y0 ≤ r * 1000000000 + x0 := by
      have h1 := mul_lt_sq2 q y0 hqb HVV0
      have h2 : 1000000000 * 1000000000 ≤ r * 1000000000 := Nat.mul_le_mul_right _ (by omega)
      omega
    have HCOND := Lib.hid hcond
    clear hcond hr9 hrt
    go_wp2_with fail
    go_quiet (fail)
    rw [World.drewN_drewN]
    clear hr9i g1
    have hcond := HCOND.out
    have HLE := Lib.hid (less_any (w.drewN (n + nq)) T g off (m + 3) N cu L lv _ q (HV.out.drewN (n + nq)) HT.out HVD.out HLD.out hLN hm hN hcu hqb (by rw [hvl]; omega) (HO.out.drewN (n + nq)))
    have HQC := Lib.hid (HTE.out q r hqb (by rw [← HTOP.out]; exact HQ.out) hcond)
    have j1 : IntKind.u64.wrap ((q : Int) - 1) = (q : Int) - 1 ∨ q = 0 := by
      rcases Nat.eq_zero_or_pos q with h | h
      · exact Or.inr h
      · exact Or.inl (IntWalk.u64_in _ ⟨by omega, by omega⟩)
    have J1 := Lib.hid j1
    clear hcond j1
    go_wp2_with fail
    refine HLE.out.mono ?_
    rintro e w2 ⟨c, L1, rfl, ho1, hl1, hd1, ht1, hr1, hv1, hk1⟩
    have HO1 := Lib.hid ho1
    have HL1 := Lib.hid hl1
    have HD1 := Lib.hid hd1
    have HT1 := Lib.hid ht1
    have HR1 := Lib.hid hr1
    have HV1' := Lib.hid hv1
    have HK1 := Lib.hid hk1
    clear ho1 hl1 hd1 ht1 hr1 hv1 hk1
    by_cases hc : c = 0
    · subst hc
      have hdc : decide (0 < 0) = false := rfl
      obtain ⟨f1, f2⟩ := digit_end0 _ _ q _ _ HVP.out HV1'.out HF.out
      have F1 := Lib.hid f1
      have F2 := Lib.hid f2
      clear f1 f2
      go_wp2_with fail
      go_ret
      exact ⟨L1, by rw [← F1.out]; rfl, HO1.out, HL1.out, HD1.out, HT1.out, HR1.out, F2.out, ((Keeps.refl (fun x => x = g) w).drewN (n + nq)).tr HK1.out⟩
    · have hdc : decide (0 < c) = true := by simp; omega
      have HC := Lib.hid (show 0 < c by omega)
      have HMO := Lib.hid (more_any w2 T g off (m + 3) N cu L1 lv _ ((HV.out.drewN (n + nq)).keeps HK1.out (fun i hi e => HT.out (by rw [← e]; exact hi))) HT.out HVD.out HD1.out HL1.out hm hN hcu (by rw [hvl]; omega) HO1.out)
      have hq1' : 1 ≤ q := by
        rcases Nat.eq_zero_or_pos q with h | h
        · exfalso
          have := HV1'.out
          rw [h, Nat.zero_mul, Nat.add_zero] at this
          have h2 := val_lt _ (digs_take (digs_drop HD1.out off) (m + 3))
          rw [window_len L1 off (m + 3) (by rw [HL1.out]; exact hm)] at h2
          have h3 : BB ^ (m + 3) * 1 ≤ BB ^ (m + 3) * c := Nat.mul_le_mul_left _ HC.out
          omega
        · exact h
      obtain ⟨q', hq'⟩ : ∃ q', q = q' + 1 := ⟨q - 1, by omega⟩
      have j2 : IntKind.u64.wrap ((q : Int) - 1) = (q' : Int) := by rw [show (q : Int) - 1 = (q' : Int) from by omega]; exact wrap_n64 q' (by omega)
      have HQ' := Lib.hid hq'
      clear hc hq1' hq'
      go_wp2_with fail
      refine HMO.out.mono ?_
      rintro e w3 ⟨c3, L3, rfl, ho3, hl3, hd3, ht3, hr3, hv3, hk3⟩
      obtain ⟨f0, f1, f2⟩ := digit_end1 _ _ q _ _ _ c c3 HVP.out (by have h2 := val_lt _ (digs_take (digs_drop hd3 off) (m + 3)); rwa [window_len L3 off (m + 3) (by rw [hl3]; exact hm)] at h2) HLT.out (by have h2 := val_lt _ (digs_take (digs_drop HD1.out off) (m + 3)); rwa [window_len L1 off (m + 3) (by rw [HL1.out]; exact hm)] at h2) HV1'.out HC.out hv3 HQC.out HF.out
      have HE : Hid (∃ (L' : List Nat), (q' : Nat) = val ((L.drop off).take (m + 3)) / val lv ∧ Own w3 (fun x => x = g) 109 1 (.slice (some ⟨g, 0, none⟩) N N) N (ns L') ∧ L'.length = N ∧ digs L' ∧ L'.take off = L.take off ∧ L'.drop (off + (m + 3)) = L.drop (off + (m + 3)) ∧ val ((L'.drop off).take (m + 3)) = val ((L.drop off).take (m + 3)) % val lv ∧ Keeps (fun x => x = g) w w3) := Lib.hid ⟨L3, by have := HQ'.out; omega, ho3, hl3, hd3, ht3.trans HT1.out, hr3.trans HR1.out, f2, (((Keeps.refl (fun x => x = g) w).drewN (n + nq)).tr HK1.out).tr hk3⟩
      clear ho3 hl3 hd3 ht3 hr3 hv3 hk3 f0 f1 f2
      go_wp2_with fail
      go_ret
      obtain ⟨L', z1, z2⟩ := HE.out
      exact ⟨L', by rw [← z1]; rfl, z2⟩
end Go.Proofs.YtempdomhbfokmaaGreatDoor

namespace Go.Proofs.YtempdomhbfokmaaGreatDoor
open Go.RowKit

set_option maxHeartbeats 400000 in
theorem cloneN_raw (w : World) (T : Nat → Prop) (A : Option Addr) (n c : Nat) (xs : List Value) (hr : Reads w T 1 A n xs) (h1 : ∀ u ∈ xs, u.oneCell' = true) (hn : n ≤ 1000000000000) (hA : A = none → n = 0 ∧ c = 0) :
    Calls Tryz.prog 87 #[.slice A n c] w (RetFresh w 109 1 n xs) := by
  obtain ⟨i0, hi, hz0, hz1, hz2⟩ := info_parts u32_info
  rcases A with _ | ad
  · obtain ⟨rfl, rfl⟩ := hA rfl
    have hx : xs = [] := List.eq_nil_of_length_eq_zero (by simpa using hr.1)
    subst hx
    have he := fun W : World => Lib.run_eql_slice_nil (P := Tryz.prog) W 79 109 none 0 0 0 0 Tryz.underlying79
    go_enter Tryz.func87, Tryz.ntmps87
    go_wp2_with fail
    go_ret
    exact ⟨_, rfl, Own.nil_ _ _ _ _, Below.refl _ _⟩
  · have he := fun W : World => Lib.run_eql_slice_nil (P := Tryz.prog) W 79 109 (some ad) n c 0 0 Tryz.underlying79
    go_enter Tryz.func87, Tryz.ntmps87
    go_wp2_with (at_builtin; refine wpList_append_any _ rfl _ _ 79 rfl 109 i0 _ 1 4 Tryz.underlying79 hi hz0 hz1 hz2 rfl (by omega) (.slice (some ⟨w.heap.size, 0, none⟩) 0 0) 0 [] rfl (own_empty w (fun g => w.heap.size ≤ g) _ _ (Nat.le_refl _)) _ n c xs rfl (hr.alloc _) h1 (by unfold maxLen; omega) (by omega) ?_; intro v1 w1 happ)
    go_ret
    refine ⟨_, rfl, ?_, ?_⟩
    · have h := happ.1
      simp only [Nat.zero_add, List.nil_append] at h
      exact h.more fun g _ hg => by rcases hg with hg | hg; exact hg; simp at hg; omega
    · refine below_of_app (by go_grown) happ (by simp) (fun g hg => ?_)
      simp [Value.ownBlock] at hg
      omega

theorem cloneN_any (w : World) (T : Nat → Prop) (v : Value) (n : Nat) (h : NatR w T v n) (hn : (ofN n).length ≤ 1000000) :
    Calls Tryz.prog 87 #[v] w fun e w' => ∃ r, e = .returned r ∧ NatR w' (fun g => w.heap.size ≤ g) r n ∧ Below w.heap.size w w' := by
  obtain ⟨A, c, rfl, hr, h1, h2, h3⟩ := h
  refine (cloneN_raw w T A _ c _ hr (ns_one _) (by omega) h3).mono ?_
  rintro e w' ⟨r, rfl, ho, hb⟩
  exact ⟨r, rfl, ho.dig, hb⟩

theorem drop_zero_of (L : List Nat) (k : Nat) (h : val L < BB ^ k) (hk : k ≤ L.length) : val (L.drop k) = 0 := by
  have h1 := val_split L k hk
  rcases Nat.eq_zero_or_pos (val (L.drop k)) with h2 | h2
  · exact h2
  · have : BB ^ k * 1 ≤ BB ^ k * val (L.drop k) := Nat.mul_le_mul_left _ h2
    omega
/-- what the window of a step is worth -/
theorem div_window (L : List Nat) (k n V : Nat) (hk : k + n ≤ L.length) (hV : V < BB ^ (n - 1)) (hn : 1 ≤ n) (h : val L < BB ^ (k + 1) * V) : val L = val (L.take k) + BB ^ k * val ((L.drop k).take n) ∧ val ((L.drop k).take n) < BB * V := by
  have h1 := val_split L k (by omega)
  have h2 := val_split (L.drop k) n (by rw [List.length_drop]; omega)
  have h3 : val L < BB ^ (k + n) := by
    refine Nat.lt_of_lt_of_le h ?_
    rw [show k + n = (k + 1) + (n - 1) from by omega, Nat.pow_add BB (k + 1) (n - 1)]
    exact Nat.mul_le_mul_left _ (Nat.le_of_lt hV)
  have h4 := drop_zero_of L (k + n) h3 hk
  rw [List.drop_drop, h4, Nat.mul_zero, Nat.add_zero] at h2
  rw [h2] at h1
  refine ⟨h1, ?_⟩
  rw [pow_succ_mul] at h
  have h5 : BB ^ k * val ((L.drop k).take n) < BB ^ k * (BB * V) := by omega
  exact Nat.lt_of_mul_lt_mul_left h5
theorem div_step (L L' O : List Nat) (k n V U0 : Nat) (hk : k + n ≤ L.length) (hl : L'.length = L.length) (dL : digs L) (hV : V < BB ^ (n - 1)) (hV0 : 0 < V) (hn : 1 ≤ n) (hko : k < O.length)
    (h : val L < BB ^ (k + 1) * V) (hi : val L + BB ^ (k + 1) * val (O.drop (k + 1)) * V = U0)
    (ht : L'.take k = L.take k) (hd : L'.drop (k + n) = L.drop (k + n)) (hw : val ((L'.drop k).take n) = val ((L.drop k).take n) % V) :
    val L' < BB ^ k * V ∧ val L' + BB ^ k * val ((O.set k (val ((L.drop k).take n) / V)).drop k) * V = U0 := by
  obtain ⟨e1, e2⟩ := div_window L k n V hk hV hn h
  have h3 : val L < BB ^ (k + n) := by
    refine Nat.lt_of_lt_of_le h ?_
    rw [show k + n = (k + 1) + (n - 1) from by omega, Nat.pow_add BB (k + 1) (n - 1)]
    exact Nat.mul_le_mul_left _ (Nat.le_of_lt hV)
  have h4 := drop_zero_of L (k + n) h3 hk
  have h1 := val_split L' k (by omega)
  have h2 := val_split (L'.drop k) n (by rw [List.length_drop]; omega)
  rw [List.drop_drop, hd, h4, Nat.mul_zero, Nat.add_zero, hw] at h2
  rw [h2, ht] at h1
  obtain ⟨U, hU⟩ : ∃ U, U = val ((L.drop k).take n) := ⟨_, rfl⟩
  rw [← hU] at h1 e1 ⊢
  have h5 := val_lt (L.take k) (digs_take dL k)
  rw [List.length_take, Nat.min_eq_left (by omega)] at h5
  have h6 := Nat.mod_lt U hV0
  constructor
  · have : BB ^ k * (U % V + 1) ≤ BB ^ k * V := Nat.mul_le_mul_left _ h6
    rw [Nat.mul_add, Nat.mul_one] at this
    omega
  · have e : (O.set k (U / V)).drop k = U / V :: O.drop (k + 1) := by
      rw [List.drop_eq_getElem_cons (by simpa using hko), set_drop _ _ _ _ (by omega)]
      simp
    rw [e, val, ← hi, e1, h1]
    have h7 : BB ^ k * (U / V + BB * val (O.drop (k + 1))) * V = BB ^ k * (V * (U / V)) + BB ^ (k + 1) * val (O.drop (k + 1)) * V := by
      rw [Nat.mul_add, Nat.add_mul, Nat.mul_assoc, Nat.mul_comm (U / V) V, ← pow_succ_mul]
    have h8 : BB ^ k * U = BB ^ k * (V * (U / V)) + BB ^ k * (U % V) := by rw [← Nat.mul_add, Nat.div_add_mod]
    rw [h7, h8]
    omega
theorem div_first (a b by' n m : Nat) (ha : a < BB ^ n) (hb : BB ^ (m + 1) ≤ b) (hby : 0 < by') (hn : m + 2 ≤ n) : by' * a < BB ^ (n - (m + 2) + 1) * (by' * b) := by
  have h1 : BB ^ (n - (m + 2) + 1) * BB ^ (m + 1) ≤ BB ^ (n - (m + 2) + 1) * b := Nat.mul_le_mul_left _ hb
  rw [← Nat.pow_add, show n - (m + 2) + 1 + (m + 1) = n from by omega] at h1
  rw [Nat.mul_comm by' b, ← Nat.mul_assoc, Nat.mul_comm _ by']
  exact Nat.mul_lt_mul_of_pos_left (by omega) hby
theorem div_last (a b by' vL vO : Nat) (hby : 0 < by') (hb : 0 < b) (h : vL + vO * (by' * b) = by' * a) (hl : vL < by' * b) : vO = a / b ∧ vL = by' * (a % b) := by
  have hp : 0 < by' * b := Nat.mul_pos hby hb
  have h1 : (by' * a) / (by' * b) = vO := by
    rw [← h, Nat.mul_comm vO, Nat.add_mul_div_left _ _ hp, Nat.div_eq_of_lt hl, Nat.zero_add]
  have h2 : (by' * a) % (by' * b) = vL := by
    rw [← h, Nat.mul_comm vO, Nat.add_mul_mod_self_left, Nat.mod_eq_of_lt hl]
  rw [Nat.mul_div_mul_left _ _ hby] at h1
  rw [Nat.mul_mod_mul_left] at h2
  exact ⟨h1.symm, h2.symm⟩
/-- the divisor, scaled, has no more digits -/
theorem scale_fits (lb : List Nat) (m by' : Nat) (hd : digs lb) (hl : lb.length = m + 2) (h : by' * (lb[m + 1] + 1) ≤ BB) : by' * val lb < BB ^ (m + 2) := by
  obtain ⟨r, e, f⟩ := val_head1 lb (m + 1) hd (by omega)
  rcases Nat.eq_zero_or_pos by' with h0 | h0
  · rw [h0, Nat.zero_mul]; exact Nat.pow_pos BB_pos
  · have h1 : val lb < BB ^ (m + 1) * (lb[m + 1] + 1) := by rw [e, Nat.mul_add]; omega
    have h2 : by' * val lb < by' * (BB ^ (m + 1) * (lb[m + 1] + 1)) := Nat.mul_lt_mul_of_pos_left h1 h0
    have h3 : by' * (BB ^ (m + 1) * (lb[m + 1] + 1)) = BB ^ (m + 1) * (by' * (lb[m + 1] + 1)) := by rw [← Nat.mul_assoc, Nat.mul_comm by', Nat.mul_assoc]
    have h4 : BB ^ (m + 1) * (by' * (lb[m + 1] + 1)) ≤ BB ^ (m + 1) * BB := Nat.mul_le_mul_left _ h
    rw [← Nat.pow_succ] at h4
    change _ ≤ BB ^ (m + 2) at h4
    omega
end Go.Proofs.YtempdomhbfokmaaGreatDoor

namespace Go.Proofs.YtempdomhbfokmaaGreatDoor
open Go.RowKit

theorem ofN_single (n : Nat) (h1 : (ofN n).length = 1) : ofN n = [n] := by
  have := val_ofN n
  match hh : ofN n, h1 with
  | [d], _ =>
    rw [hh] at this
    have e : d = n := by simpa [val] using this
    rw [e]
theorem cmpF_lt (a b : Nat) : (decide (cmpF a b < 0)) = decide (a < b) := by
  unfold cmpF
  by_cases h : a < b
  · simp [h]
  · by_cases h2 : b < a
    · simp [h, h2]
    · simp [h, h2]
theorem dig_win {w : World} {T : Nat → Prop} {g N : Nat} {L : List Nat} (h : Own w T 109 1 (.slice (some ⟨g, 0, none⟩) N N) N (ns L)) (hl : L.length = N) (k : Nat) (hk : k ≤ N) (hm : N ≤ maxLen) : Dig w T (.slice (some ⟨g, 0, none⟩) k N) (L.take k) := by
  have e : (L.take k).length = k := by rw [List.length_take]; omega
  refine ⟨some ⟨g, 0, none⟩, N, by rw [e], ?_, by omega, hm, fun h => by cases h⟩
  rw [e, ← ns_take]
  have := h.reads.take (k := k) hk
  simpa using this

set_option maxRecDepth 100000 in
set_option maxHeartbeats 8000000 in
theorem div_any (w : World) (T T' : Nat → Prop) (u v : Value) (a b : Nat) (hu : NatR w T u a) (hv : NatR w T' v b) (hla : (ofN a).length ≤ 100000) (hb0 : 0 < b) :
    Calls Tryz.prog 77 #[u, v] w fun e w' => ∃ q r, e = .returned (.tuple #[q, r]) ∧ NatR w' (fun g => w.heap.size ≤ g) q (a / b) ∧ NatR w' (fun g => w.heap.size ≤ g) r (a % b) ∧ Below w.heap.size w w' := by
  have HC := Lib.hid (cmp_any w T T' u v a b hu hv)
  have HU := Lib.hid hu
  have HV := Lib.hid hv
  have hlt := cmpF_lt a b
  obtain ⟨A1, c1, rfl, -, l1, m1, -⟩ := hu
  obtain ⟨A2, c2, rfl, hr2, l2, m2, -⟩ := hv.old
  generalize cmpF a b = cf at *
  by_cases hab : a < b
  · have h1 : decide (cf < 0) = true := by rw [hlt]; simpa using hab
    have HAB := Lib.hid hab
    have HLA := Lib.hid hla
    clear hlt hab hla hr2
    go_enter Tryz.func77, Tryz.ntmps77
    go_wp2_with fail
    refine HC.out.mono ?_
    rintro e w1 ⟨rfl, k, rfl⟩
    have HCL := Lib.hid (cloneN_any (w.drewN k) T _ a (HU.out.drewN k) (by have := HLA.out; omega))
    go_wp2_with fail
    refine HCL.out.mono ?_
    rintro e w2 ⟨r, rfl, hr, hb⟩
    have HR := Lib.hid hr
    have HB := Lib.hid hb
    clear hr hb
    go_wp2_with fail
    go_ret2
    exact ⟨_, r, rfl, by rw [Nat.div_eq_of_lt HAB.out]; exact NatR.zero _ _, by rw [Nat.mod_eq_of_lt HAB.out]; exact HR.out, (((Keeps.refl (fun _ => False) w).drewN k).fresh HB.out).to_below⟩
  have h1 : decide (cf < 0) = false := by rw [hlt]; simpa using hab
  by_cases hl1 : (ofN b).length = 1
  · obtain ⟨ad, x0, rfl, -, -, hx0, hcb⟩ := hr2.at_ (k := 0) (by omega)
    have hd := digs_get (digs_ofN b) 0 (by omega)
    have hbe : (ofN b)[0]'(by omega) = b := (List.getElem_of_eq (ofN_single b hl1) _).trans rfl
    rw [ns_get _ 0 (by omega), hbe] at hx0
    injection hx0 with hx0
    subst hx0
    rw [hbe] at hd
    rw [show ad.add 0 = ad from by simp [Addr.add]] at hcb
    unfold BB at hd
    have e0 := wrap_n64 b (by omega)
    have hlen1 : ((ofN b).length : Int) = 1 := by omega
    rw [hl1]
    have HSH := Lib.hid (fun k => short_any (w.drewN k) T _ (ofN a) b (show Dig (w.drewN k) T _ (ofN a) from HU.out.drewN k) (digs_ofN a) (by omega) hb0 (by omega))
    rw [val_ofN] at HSH
    have hmb : a % b < 18446744073709551616 := by have := Nat.mod_lt a hb0; omega
    have HMB := Lib.hid hmb
    rw [hl1] at HC
    clear hlt hab hla hr2 hl1 hbe hd hlen1 hmb
    go_enter Tryz.func77, Tryz.ntmps77
    go_wp2_with fail
    refine HC.out.mono ?_
    rintro e w1 ⟨rfl, k, rfl⟩
    have hcb' : (w.drewN k).cell? ad = some (.int .u32 (b : Int)) := hcb
    go_wp2_with fail
    refine (HSH.out k).mono ?_
    rintro e w2 ⟨q, rfl, hq, hb2⟩
    have HQ := Lib.hid hq
    have HB2 := Lib.hid hb2
    clear hq hb2
    go_wp2_with fail
    refine (of_any w2 (a % b) HMB.out).mono ?_
    rintro e w3 ⟨r, rfl, hr, hb3⟩
    have HR := Lib.hid hr
    have HB3 := Lib.hid hb3
    clear hr hb3
    go_wp2_with fail
    go_ret2
    exact ⟨q, r, rfl, HQ.out.fresh HB3.out, HR.out.more (fun g _ h => Nat.le_trans HB2.out.size h), ((((Keeps.refl (fun _ => False) w).drewN k).fresh HB2.out).fresh HB3.out).to_below⟩
  have hl0 : (ofN b).length ≠ 0 := fun h => by have := (ofN_length_zero b).1 h; omega
  obtain ⟨m, hm⟩ : ∃ m, (ofN b).length = m + 2 := ⟨(ofN b).length - 2, by omega⟩
  have hlab := ofN_length_mono b a (by omega)
  obtain ⟨bd, x0, rfl, -, -, hx0, hcb⟩ := hr2.at_ (k := m + 1) (by omega)
  rw [ns_get _ (m + 1) (by omega)] at hx0
  injection hx0 with hx0
  subst hx0
  have hxl := digs_get (digs_ofN b) (m + 1) (by omega)
  obtain ⟨x, hx⟩ : ∃ x, x = (ofN b)[m + 1]'(by omega) := ⟨_, rfl⟩
  rw [← hx] at hcb hxl
  unfold BB at hxl
  obtain ⟨x', hx'⟩ : ∃ x', x' = x + 1 := ⟨_, rfl⟩
  obtain ⟨by', hby⟩ : ∃ by', by' = 1000000000 / x' := ⟨_, rfl⟩
  have hb1 : 0 < by' := by rw [hby]; exact Nat.div_pos (by omega) (by omega)
  have hb2 : by' ≤ 1000000000 := by rw [hby]; exact Nat.div_le_self _ _
  have hfit : by' * b < BB ^ (m + 2) := by
    have := scale_fits (ofN b) m by' (digs_ofN b) hm (by rw [← hx, ← hx', hby]; exact Nat.div_mul_le_self _ _)
    rwa [val_ofN] at this
  have hfa : by' * a < BB ^ ((ofN a).length + 1) := by
    rw [Nat.pow_succ, Nat.mul_comm]
    exact Nat.lt_of_le_of_lt (Nat.mul_le_mul_left _ hb2) (Nat.mul_lt_mul_of_pos_right (lt_pow_ofN a) BB_pos)
  have hbm : BB ^ (m + 1) ≤ b := by
    have := pow_le_ofN b (by omega)
    rwa [hm] at this
  obtain ⟨n, hn⟩ : ∃ n, n = (ofN a).length := ⟨_, rfl⟩
  have hfirst := div_first a b by' n m (by rw [hn]; exact lt_pow_ofN a) hbm hb1 (by omega)
  have e0 := wrap_n64 x (by omega)
  have e1 : IntKind.u64.wrap ((x : Int) + 1) = (x' : Int) := wrap_add64 x 1 x' hx'.symm (by omega)
  have e2 : (1000000000 : Int).tdiv (x' : Int) = (by' : Int) := by rw [Int.tdiv_eq_ediv_of_nonneg (by omega), hby]; rfl
  have e3 : ¬ (x' : Int) = 0 := by omega
  have e4 := wrap_n64 by' (by omega)
  have e5 : wrap64 ((m : Int) + 2 - 1) = (m : Int) + 1 := by rw [show (m : Int) + 2 - 1 = (m : Int) + 1 from by omega]; exact IntWalk.wrap64_in _ ⟨by omega, by omega⟩
  have hSA0 := fun k => scaled_any (w.drewN k) T (.slice A1 n c1) (ofN a) by' (n + 1) (by rw [hn]; exact HU.out.drewN k) (digs_ofN a) hb2 (by omega) (by omega) (by rw [val_ofN, hn]; exact hfa)
  rw [val_ofN] at hSA0
  have hSA : ∀ k : Nat, Calls Tryz.prog 104 #[.slice A1 n c1, .int .u64 by', .int .i64 ((n : Int) + 1)] (w.drewN k) fun e w' => ∃ L : List Nat, e = .returned (.slice (some ⟨w.heap.size, 0, none⟩) (n + 1) (n + 1)) ∧ L.length = n + 1 ∧ digs L ∧ val L = by' * a ∧ Own w' (fun q => q = w.heap.size) 109 1 (.slice (some ⟨w.heap.size, 0, none⟩) (n + 1) (n + 1)) (n + 1) (ns L) ∧ Below w.heap.size (w.drewN k) w' := hSA0
  have hSB : ∀ (k : Nat) (W : World), Below (w.drewN k).heap.size (w.drewN k) W → Calls Tryz.prog 104 #[.slice (some bd) (m + 2) c2, .int .u64 by', .int .i64 ((m : Int) + 2)] W fun e w' => ∃ L : List Nat, e = .returned (.slice (some ⟨W.heap.size, 0, none⟩) (m + 2) (m + 2)) ∧ L.length = m + 2 ∧ digs L ∧ val L = by' * b ∧ Own w' (fun q => q = W.heap.size) 109 1 (.slice (some ⟨W.heap.size, 0, none⟩) (m + 2) (m + 2)) (m + 2) (ns L) ∧ Below W.heap.size W w' := by
    intro k W hW
    have h3 : Dig W T' (.slice (some bd) (m + 2) c2) (ofN b) := by
      have := (show Dig (w.drewN k) T' _ (ofN b) from HV.out.drewN k).fresh (w' := W) hW
      rwa [hm] at this
    have := scaled_any W T' (.slice (some bd) (m + 2) c2) (ofN b) by' (m + 2) h3 (digs_ofN b) hb2 (by omega) (by omega) (by rw [val_ofN]; exact hfit)
    rw [val_ofN] at this
    exact this
  have HSA := Lib.hid hSA
  have HSB := Lib.hid hSB
  rw [hm] at HC ⊢
  rw [← hn] at HC ⊢
  have HFIT := Lib.hid hfit
  have HBM := Lib.hid hbm
  have HFIRST := Lib.hid hfirst
  have hlab' : m + 2 ≤ n := by omega
  have hn5 : n ≤ 100000 := by omega
  have HBY := Lib.hid hb1
  have HBY2 := Lib.hid hb2
  have hbl : (bd.block : Nat) < w.heap.size := by
    rcases Nat.lt_or_ge bd.block w.heap.size with h | h
    · exact h
    · have e : (bd.add (m + 1)).block = bd.block := block_of_add _ _
      simp [World.cell?, e, Array.getElem?_eq_none h] at hcb
  have hcb2 : w.cell? ⟨bd.block, bd.off + (m + 1), none⟩ = some (.int .u32 (x : Int)) := by simpa [Addr.add] using hcb
  have hlen1 : ¬ ((m : Int) + 2 = 1) := by omega
  have hlen2 : ((m : Int) + 2 == 1) = false := by simp; omega
  have HB0 := Lib.hid hb0
  clear hSA hSA0 hSB hfit hfirst hb1 hlt hab hr2 hx hxl hx' hby hfa hbm hm hl0 hl1 hlab hn hla hb0
  go_enter Tryz.func77, Tryz.ntmps77
  go_wp2_with fail
  refine HC.out.mono ?_
  rintro e w1 ⟨rfl, k, rfl⟩
  go_wp2_with fail
  refine (HSA.out k).mono ?_
  rintro e w2 ⟨L0, rfl, hl0, hd0, hv0, ho0, hb0⟩
  have HSB2 := Lib.hid (HSB.out k w2 hb0)
  have HL0 := Lib.hid hl0
  have HD0 := Lib.hid hd0
  have HV0 := Lib.hid hv0
  have HO0 := Lib.hid ho0
  have HB02 := Lib.hid hb0
  clear hl0 hd0 hv0 ho0 hb0
  obtain ⟨gu, hgu⟩ : ∃ g, g = w.heap.size := ⟨_, rfl⟩
  rw [← hgu] at HO0
  rw [← hgu]
  have HGU := Lib.hid hgu
  clear hgu
  go_wp2_with fail
  refine HSB2.out.mono ?_
  rintro e w3 ⟨lv, rfl, hl1, hd1, hv1, ho1, hb1⟩
  have HL1 := Lib.hid hl1
  have HD1 := Lib.hid hd1
  have HV1 := Lib.hid hv1
  have hu2 : gu < w2.heap.size := HO0.out.lt rfl
  have HO1 := Lib.hid ho1
  have HB13 := Lib.hid hb1
  have HO0' := Lib.hid (HO0.out.fresh hb1)
  obtain ⟨gv, hgv⟩ : ∃ g, g = w2.heap.size := ⟨_, rfl⟩
  rw [← hgv] at HO1
  rw [← hgv]
  have HGV := Lib.hid hgv
  have hguv : gu < gv := by omega
  clear hl1 hd1 hv1 ho1 hb1 hgv hu2
  go_upto_region 9 with (at_make; refine wpList_make_nat _ rfl _ _ rfl _ _ (n - (m + 2) + 1) rfl rfl (by go_num) (by go_num) (by omega) ?_; intro w4 hown hb4 hz4)
  obtain ⟨go, hgo⟩ : ∃ g, g = w3.heap.size := ⟨_, rfl⟩
  rw [← hgo] at hown
  rw [← hgo]
  have hgvo : gv < go := by have h : gv < w3.heap.size := HO1.out.lt rfl; omega
  have hHO0 : Own w4 (fun q => q = gu) 109 1 (.slice (some ⟨gu, 0, none⟩) (n + 1) (n + 1)) (n + 1) (ns L0) := HO0'.out.fresh hb4
  have hHO1 : Own w4 (fun q => q = gv) 109 1 (.slice (some ⟨gv, 0, none⟩) (m + 2) (m + 2)) (m + 2) (ns lv) := HO1.out.fresh hb4
  have HGO := Lib.hid hgo
  obtain ⟨K, hK⟩ : ∃ K, K = n - (m + 2) + 1 := ⟨_, rfl⟩
  rw [← hK] at hown
  rw [← hK]
  have hKn : K + (m + 2) = n + 1 := by omega
  have HFIRST2 : Hid (by' * a < BB ^ K * (by' * b)) := by rw [hK]; exact HFIRST.out
  have hB4 : Below w.heap.size w w4 := by
    have h1 := HB02.out
    have h2 := HB13.out
    have h3 : w.heap.size ≤ w2.heap.size := h1.size
    have h4 : w2.heap.size ≤ w3.heap.size := h2.size
    exact ((((Keeps.refl (fun _ => False) w).drewN k).fresh h1).fresh h2 |>.fresh hb4).to_below
  have HOO := Lib.hid hown
  have HUU := Lib.hid hHO0
  have HVV := Lib.hid hHO1
  have HB4 := Lib.hid hB4
  have hkw : wrap64 ((K : Int) - 1) = (K : Int) - 1 := IntWalk.wrap64_in _ ⟨by omega, by omega⟩
  have hv0 : Hid (∀ h : m + 1 < lv.length, 0 < lv[m + 1]) := Lib.hid fun h => by
    have hnz : Nrm lv := by
      refine nrm_of_le lv HD1.out ?_
      rw [HL1.out, HV1.out]
      have h1 : 1 * b ≤ by' * b := Nat.mul_le_mul_right _ HBY.out
      have h2 := HBM.out
      show BB ^ (m + 1) ≤ _
      omega
    have h2 := hnz (by omega)
    have h3 : lv.length - 1 = m + 1 := by have := HL1.out; omega
    simp only [h3] at h2
    omega
  clear hown hb4 hz4 hHO0 hHO1 hB4 hgo hK
  go_wp2_with fail
  go_loopw [12] (fun i wr => ∃ (j : Nat) (L O : List Nat), i = .int .i64 ((j : Int) - 1) ∧ j ≤ K ∧ Hid (L.length = n + 1) ∧ Hid (digs L) ∧ Hid (O.length = K) ∧ Hid (digs O) ∧ Hid (val L < BB ^ j * (by' * b)) ∧ Hid (val L + BB ^ j * val (O.drop j) * (by' * b) = by' * a) ∧ Hid (Own wr (fun q => q = gu) 109 1 (.slice (some ⟨gu, 0, none⟩) (n + 1) (n + 1)) (n + 1) (ns L)) ∧ Hid (Own wr (fun q => q = go) 109 1 (.slice (some ⟨go, 0, none⟩) K K) K (ns O)) ∧ Hid (Keeps (fun q => q = gu ∨ q = go) w4 wr)) (fun i _ => (intOf i + 1).toNat)
  case atStart => exact ⟨K, L0, List.replicate K 0, by go_num, by omega, HL0, HD0, Lib.hid (by simp), Lib.hid (digs_zeros _), (by show _ < _; rw [HV0.out]; exact HFIRST2.out), (by show _ = _; rw [HV0.out, List.drop_of_length_le (by simp)]; simp [val]), HUU, HOO, Lib.hid (Keeps.refl _ _)⟩
  obtain ⟨j, L, O, rfl, hj, HLL, HLD, HOL, HOD, HVB, HVE, HU3, HO3, HK3⟩ := hrel
  have HV3 : Hid (Own wr (fun q => q = gv) 109 1 (.slice (some ⟨gv, 0, none⟩) (m + 2) (m + 2)) (m + 2) (ns lv)) := Lib.hid (HVV.out.keeps HK3.out (fun i hi e => by omega))
  by_cases hj0 : j = 0
  · subst hj0
    have hE := HVE.out
    rw [List.drop_zero, Nat.pow_zero, Nat.one_mul] at hE
    have hBd := HVB.out
    rw [Nat.pow_zero, Nat.one_mul] at hBd
    obtain ⟨hq, hr⟩ := div_last a b by' (val L) (val O) HBY.out HB0.out hE hBd
    have hz : val (L.take (m + 2)) = by' * (a % b) := by
      have h1 := val_split L (m + 2) (by rw [HLL.out]; omega)
      have h2 := drop_zero_of L (m + 2) (Nat.lt_trans hBd HFIT.out) (by rw [HLL.out]; omega)
      rw [h2, Nat.mul_zero, Nat.add_zero] at h1
      rw [← h1, hr]
    have HT1 := Lib.hid (trim_any wr _ _ (L.take (m + 2)) (dig_win HU3.out HLL.out (m + 2) (by omega) (by unfold maxLen; omega)) (digs_take HLD.out _))
    rw [hz] at HT1
    have HSH : Hid (∀ r, NatR wr (fun q => q = gu) r (by' * (a % b)) → Calls Tryz.prog 103 #[r, .int .u64 by'] wr fun e w' => ∃ r2 s, e = .returned (.tuple #[r2, s]) ∧ NatR w' (fun q => wr.heap.size ≤ q) r2 (a % b) ∧ Below wr.heap.size wr w') := Lib.hid fun r hr => by
      have hle : (ofN (by' * (a % b))).length ≤ m + 2 := ofN_length_le _ _ (by
        have h1 := Nat.mod_lt a HB0.out
        exact Nat.lt_of_le_of_lt (Nat.mul_le_mul_left _ (Nat.le_of_lt h1)) HFIT.out)
      refine (short_any wr _ r (ofN (by' * (a % b))) by' hr (digs_ofN _) HBY2.out HBY.out (by omega)).mono ?_
      rintro e w' ⟨r2, rfl, h2, h3⟩
      rw [val_ofN, Nat.mul_div_cancel_left _ HBY.out] at h2
      exact ⟨r2, _, rfl, h2, h3⟩
    have HT2 : Hid (∀ W, Below wr.heap.size wr W → Calls Tryz.prog 74 #[.slice (some ⟨go, 0, none⟩) K K] W fun e w' => ∃ r, e = .returned r ∧ NatR W (fun q => q = go) r (a / b) ∧ w' = W) := Lib.hid fun W hW => by
      have := trim_any W _ _ O (HO3.out.fresh hW).dig HOD.out
      rwa [hq] at this
    have hgob : w.heap.size ≤ go := by have := HGU.out; omega
    have HGOB := Lib.hid hgob
    have HKF : Hid (Below w.heap.size w wr) := Lib.hid (((Keeps.of_below HB4.out (fun _ => False)).trans (HK3.out.mono (S' := fun i => w.heap.size ≤ i) (fun i _ h => by have := HGU.out; omega)) (fun i hi h => by omega)).to_below)
    clear hE hBd hq hr hz hgob
    have i5 : ¬ (n + 1 = m + 2) := by omega
    have i6 : (m : Int) + 2 ≤ (n : Int) + 1 := by omega
    go_wp2_with fail
    refine HT1.out.mono ?_
    rintro e w6 ⟨r1, rfl, hr1, rfl⟩
    have HS2 := Lib.hid (HSH.out r1 hr1)
    clear hr1
    go_wp2_with fail
    refine HS2.out.mono ?_
    rintro e w7 ⟨r2, s, rfl, hr2, hb7⟩
    have HR2 := Lib.hid hr2
    have HB7 := Lib.hid hb7
    have HT3 := Lib.hid (HT2.out w7 hb7)
    clear hr2 hb7
    go_wp2_with fail
    refine HT3.out.mono ?_
    rintro e w8 ⟨q, rfl, hq, rfl⟩
    have HQ := Lib.hid hq
    clear hq
    go_wp2_with fail
    go_ret2
    exact ⟨q, r2, rfl, HQ.out.more (fun i _ h => by have := HGOB.out; omega), HR2.out.more (fun i _ h => Nat.le_trans HKF.out.size h), HKF.out.trans (HB7.out.mono HKF.out.size)⟩
  · obtain ⟨j', rfl⟩ : ∃ j', j = j' + 1 := ⟨j - 1, by omega⟩
    have i1 : ((j' + 1 : Nat) : Int) - 1 = j' := by omega
    rw [i1]
    have i2 : (j' : Int) < K := by omega
    have i3 : (j' : Int) < (n : Int) + 1 := by omega
    have i4 : (j' : Int) + ((m : Int) + 2) + 1 ≤ (n : Int) + 1 := by omega
    have hVf : by' * b < BB ^ (m + 3 - 1) := HFIT.out
    obtain ⟨hw1, hw2⟩ := div_window L j' (m + 3) (by' * b) (by rw [HLL.out]; omega) hVf (by omega) HVB.out
    have HDG := Lib.hid (digit_any wr (fun q => q = gv) gu j' m (n + 1) (n + 1 - j') L lv (.slice (some ⟨gv, 0, none⟩) (m + 2) (m + 2)) HV3.out.dig (by omega) HD1.out HLD.out HLL.out (by omega) (by omega) (by omega) HL1.out (hv0.out _) (by rw [HV1.out]; exact hw2) HU3.out)
    rw [HV1.out] at HDG
    have HST := Lib.hid (fun L' h1 => div_step L L' O j' (m + 3) (by' * b) (by' * a) (by rw [HLL.out]; omega) h1 HLD.out hVf (Nat.mul_pos HBY.out HB0.out) (by omega) (by rw [HOL.out]; omega) HVB.out HVE.out)
    have hq9 : val ((L.drop j').take (m + 3)) / (by' * b) < 1000000000 := (Nat.div_lt_iff_lt_mul (Nat.mul_pos HBY.out HB0.out)).2 hw2
    generalize val ((L.drop j').take (m + 3)) / (by' * b) = q at *
    have e7 := wrap_n64 q (by omega)
    have e8 := wrap_n32 q (by omega)
    have HQ9 := Lib.hid hq9
    clear hw1 hw2 hVf hj0 hq9 i1
    go_wp2_with fail
    rw [show j' + (m + 2) + 1 - j' = m + 3 from by omega]
    refine HDG.out.mono ?_
    rintro e w5 ⟨L', rfl, ho5, hl5, hd5, ht5, hr5, hv5, hk5⟩
    obtain ⟨f1, f2⟩ := HST.out L' (by rw [hl5, HLL.out]) ht5 hr5 hv5
    have HF1 := Lib.hid f1
    have HF2 := Lib.hid f2
    have HO5 : Hid (Own w5 (fun q => q = go) 109 1 (.slice (some ⟨go, 0, none⟩) K K) K (ns O)) := Lib.hid (HO3.out.keeps hk5 (fun i hi e => by omega))
    have hcg := HO5.out.getN j' (by omega) HOL.out
    have hfg := HO5.out.unfrozen j'
    have HU5 := Lib.hid ho5
    have HL5 := Lib.hid hl5
    have HD5 := Lib.hid hd5
    have HK5 := Lib.hid (HK3.out.trans hk5 (fun i _ h => Or.inl h))
    clear ho5 hl5 hd5 ht5 hr5 hv5 hk5 f1 f2
    have hjw : wrap64 ((j' : Int) - 1) = (j' : Int) - 1 := IntWalk.wrap64_in _ ⟨by omega, by omega⟩
    go_wp2_with fail
    go_roundw
    case rel => exact ⟨j', L', O.set j' q, rfl, by omega, HL5, HD5, (by show _ = _; rw [List.length_set]; exact HOL.out), digs_set HOD.out j' (by have := HQ9.out; unfold BB; exact this), HF1, HF2, Lib.hid (HU5.out.setCell (p := ⟨go, j', none⟩) (show ¬ go = gu by omega) _), Lib.hid (HO5.out.setN j' q (by omega)), Lib.hid (HK5.out.setCell (p := ⟨go, j', none⟩) (fun _ => Or.inr rfl) _)⟩
    case measure => simp [intOf]
end Go.Proofs.YtempdomhbfokmaaGreatDoor

/- Natural numbers of any size in memory; nat: trim, Of, Zero, One. The steps of sums, differences, products and quotients by digits, in plain words. -/
import Derived.Test.YtempdomhbfokmaaGreatDoorMz4
import Derived.Test.YtempdomhbfokmaaGreatDoorMz36
import Derived.RegionTactic
import Derived.Test.YtempdomhbfokmaaGreatDoorMz12
namespace Go.Proofs.YtempdomhbfokmaaGreatDoor
open Go.RowKit

theorem u32_info : (Tryz.prog.info? 109).map (fun i => (i.zero, i.size, i.bytes)) = some (some (.int .u32 0), 1, 4) := by kernel_rfl
theorem lit_readsN (w : World) (t : TypeId) (xs : List Value) (n : Nat) (hn : n = xs.length) : Reads (w.alloc (.cells xs.toArray t)) (· = w.heap.size) 1 (some ⟨w.heap.size, 0, none⟩) n xs := by
  refine ⟨by simp [hn], fun _ => ⟨_, rfl, by simp, rfl, fun j u hu => ?_⟩⟩
  have h : Blk (w.alloc (.cells xs.toArray t)) w.heap.size t xs.toArray := Blk.new w t _
  rw [Addr.add_lit, h.cell]
  simpa using hu
/-- digits as cells -/
def ns (l : List Nat) : List Value := l.map fun d : Nat => Value.int .u32 (d : Int)
theorem ns_length (l : List Nat) : (ns l).length = l.length := by simp [ns]
theorem ns_get (l : List Nat) (k : Nat) (h : k < l.length) : (ns l)[k]? = some (.int .u32 (l[k] : Int)) := by simp [ns, h]
theorem ns_one (l : List Nat) : ∀ u ∈ ns l, u.oneCell' = true := by
  intro u hu
  obtain ⟨_, _, rfl⟩ := List.mem_map.1 hu
  rfl
theorem ns_app (a b : List Nat) : ns (a ++ b) = ns a ++ ns b := by simp [ns]
theorem ns_set (l : List Nat) (k d : Nat) : (ns l).set k (.int .u32 (d : Int)) = ns (l.set k d) := by simp [ns, List.map_set]
theorem ns_take (l : List Nat) (k : Nat) : (ns l).take k = ns (l.take k) := by simp [ns, List.map_take]
theorem ns_drop (l : List Nat) (k : Nat) : (ns l).drop k = ns (l.drop k) := by simp [ns, List.map_drop]
theorem ns_zeros (n : Nat) : ns (List.replicate n 0) = List.replicate n (.int .u32 0) := by simp [ns]

/-- The value v is a slice of digits that reads as l. -/
def Dig (w : World) (T : Nat → Prop) (v : Value) (l : List Nat) : Prop :=
  ∃ A c, v = .slice A l.length c ∧ Reads w T 1 A l.length (ns l) ∧ l.length ≤ c ∧ c ≤ maxLen ∧ (A = none → l.length = 0 ∧ c = 0)
/-- The value v is the natural number n. -/
def NatR (w : World) (T : Nat → Prop) (v : Value) (n : Nat) : Prop := Dig w T v (ofN n)
section
variable {w w' : World} {T T' S : Nat → Prop} {v : Value} {l : List Nat} {n : Nat}
theorem Dig.keeps (h : Dig w T v l) (hk : Keeps S w w') (hs : ∀ i, T i → ¬ S i) : Dig w' T v l := by
  obtain ⟨A, c, h1, h2, h3⟩ := h
  exact ⟨A, c, h1, h2.keeps hk hs, h3⟩
theorem Dig.fresh (h : Dig w T v l) (hk : Below w.heap.size w w') : Dig w' T v l := by
  obtain ⟨A, c, h1, h2, h3⟩ := h
  exact ⟨A, c, h1, h2.fresh hk, h3⟩
theorem Dig.alloc (h : Dig w T v l) (o : Obj) : Dig (w.alloc o) T v l := by
  obtain ⟨A, c, h1, h2, h3⟩ := h
  exact ⟨A, c, h1, h2.alloc o, h3⟩
theorem Dig.drewN (h : Dig w T v l) (n : Nat) : Dig (w.drewN n) T v l := h
theorem Dig.more (h : Dig w T v l) (hT : ∀ b, b < w.heap.size → T b → T' b) : Dig w T' v l := by
  obtain ⟨A, c, h1, h2, h3⟩ := h
  exact ⟨A, c, h1, h2.more hT, h3⟩
theorem Dig.old (h : Dig w T v l) : Dig w (· < w.heap.size) v l := by
  obtain ⟨A, c, h1, h2, h3⟩ := h
  exact ⟨A, c, h1, h2.old, h3⟩
theorem Dig.below {B : Nat} (h : Dig w T v l) (hb : Below B w w') (hT : ∀ b, T b → b < B) : Dig w' T v l := by
  obtain ⟨A, c, h1, h2, h3⟩ := h
  exact ⟨A, c, h1, h2.keep hb.size fun p _ ht => hb.cell (hT _ ht), h3⟩
theorem Dig.len (h : Dig w T v l) : ∃ A c, v = .slice A l.length c := by
  obtain ⟨A, c, h1, -⟩ := h
  exact ⟨A, c, h1⟩
theorem Dig.one (h : Dig w T v l) : v.oneCell' = true := by
  obtain ⟨A, c, rfl, _⟩ := h
  rfl
theorem Dig.at_ {A : Option Addr} {m c : Nat} (h : Dig w T (.slice A m c) l) (k : Nat) (hk : k < l.length) : ∃ ad, A = some ad ∧ ad.block < w.heap.size ∧ w.cell? (ad.add k) = some (.int .u32 (l[k] : Int)) := by
  obtain ⟨A', c', e, h2, -⟩ := h
  injection e with e1 e2 e3
  subst e1
  obtain ⟨ad, u, e, hb, -, hu, hc⟩ := h2.at_ hk
  rw [ns_get l k hk] at hu
  injection hu with hu
  subst hu
  exact ⟨ad, e, hb, hc⟩
theorem Own.dig {m : Nat} (h : Own w T 109 1 v m (ns l)) : Dig w T v l := by
  obtain ⟨A, cap, rfl, h1, h2⟩ := h.shape
  have hn : m = l.length := by have := h.length; rw [ns_length] at this; omega
  subst hn
  refine ⟨A, cap, rfl, h.reads, h1, h2, fun hA => ?_⟩
  subst hA
  rcases h.1.2 with ⟨hv, h0⟩ | ⟨g, cap, cur, hv, _⟩
  · injection hv with _ a b
    exact ⟨a, b⟩
  · injection hv with a
    cases a
theorem Dig.nil_ (w : World) (T : Nat → Prop) : Dig w T (.slice none 0 0) [] := ⟨none, 0, rfl, Reads.none_, Nat.le_refl _, Nat.zero_le _, fun _ => ⟨rfl, rfl⟩⟩
theorem NatR.zero (w : World) (T : Nat → Prop) : NatR w T (.slice none 0 0) 0 := by unfold NatR; rw [ofN_zero]; exact Dig.nil_ w T
end

theorem trim_nrm (l : List Nat) (k : Nat) (hk : k ≤ l.length) (hd : digs l) (hz : ∀ j (h : j < l.length), k ≤ j → l[j] = 0) (hl : ∀ (h : 0 < k), l[k - 1]'(by omega) ≠ 0) : l.take k = ofN (val l) := by
  rw [← nrm_take l k hk hz]
  refine eq_ofN _ (digs_take hd k) ?_
  intro h h2
  rw [List.length_take, Nat.min_eq_left hk] at h
  refine hl h ?_
  rw [List.getElem_take] at h2
  simpa [List.length_take, Nat.min_eq_left hk] using h2

set_option maxRecDepth 100000 in
set_option maxHeartbeats 1000000 in
theorem trim_any (w : World) (T : Nat → Prop) (v : Value) (l : List Nat) (h : Dig w T v l) (hd : digs l) :
    Calls Tryz.prog 74 #[v] w fun e w' => ∃ r, e = .returned r ∧ NatR w T r (val l) ∧ w' = w := by
  obtain ⟨A, c, rfl, hr, h1, h2, h3⟩ := h
  have HR := Lib.hid hr
  have HD := Lib.hid hd
  have H3 := Lib.hid h3
  clear hr hd h3
  go_enter Tryz.func74, Tryz.ntmps74
  go_wp2_with fail
  go_loopw [0] (fun v wr => wr = w ∧ ∃ k : Nat, k ≤ l.length ∧ v = .slice A k c ∧ Hid (∀ j (h : j < l.length), k ≤ j → l[j] = 0)) (fun v _ => match v with | .slice _ n _ => n | _ => 0)
  case atStart => exact ⟨rfl, l.length, Nat.le_refl _, rfl, Lib.hid fun j h1 h2 => absurd h1 (by omega)⟩
  obtain ⟨rfl, k, hk, rfl, HZ⟩ := hrel
  by_cases hk0 : k = 0
  · subst hk0
    go_wp2_with fail
    go_ret
    refine ⟨_, rfl, ?_, rfl⟩
    have e := trim_nrm l 0 hk HD.out HZ.out (fun h => absurd h (by omega))
    unfold NatR
    rw [← e]
    refine ⟨A, c, rfl, ?_, Nat.zero_le _, h2, fun hA => ⟨rfl, (H3.out hA).2⟩⟩
    have := HR.out.take (k := 0) (Nat.zero_le _)
    simpa [ns] using this
  · obtain ⟨ad, u, rfl, -, -, hu, hc⟩ := HR.out.at_ (k := k - 1) (by omega)
    rw [ns_get l (k - 1) (by omega)] at hu
    injection hu with hu
    subst hu
    obtain ⟨m, rfl⟩ : ∃ m, k = m + 1 := ⟨k - 1, by omega⟩
    simp only [Nat.add_sub_cancel] at hc
    obtain ⟨d, hdd⟩ : ∃ d, d = l[m]'(by omega) := ⟨_, rfl⟩
    rw [← hdd] at hc
    have HDD := Lib.hid hdd
    clear hdd
    have i1 : m < m + 1 := by omega
    have i2 : wrap64 (m : Int) = m := IntWalk.wrap64_in _ ⟨by omega, by unfold maxLen at h2; omega⟩
    have i3 : (m : Int) + 1 - 1 = m := by omega
    by_cases hd0 : d = 0
    · have hd1 : ((d : Int) == 0) = true := by simpa using hd0
      have HD0 := Lib.hid hd0
      clear hd0 hk0
      go_wp2_with fail
      go_roundw
      case rel =>
        refine ⟨trivial, m, by omega, rfl, Lib.hid fun j h1 h2 => ?_⟩
        by_cases e : j = m
        · subst e; rw [← HDD.out]; exact HD0.out
        · exact HZ.out j h1 (by omega)
      case measure => simp
    · have hd1 : ((d : Int) == 0) = false := by simpa using hd0
      have HD0 := Lib.hid hd0
      clear hd0 hk0
      go_wp2_with fail
      go_ret
      refine ⟨_, rfl, ?_, rfl⟩
      have e := trim_nrm l (m + 1) hk HD.out HZ.out (fun h => by rw [HDD.out] at HD0; exact HD0.out)
      unfold NatR
      rw [← e]
      have hl : (l.take (m + 1)).length = m + 1 := by rw [List.length_take]; omega
      refine ⟨some ad, c, congrArg (fun n => Value.slice (some ad) n c) hl.symm, ?_, by omega, h2, fun hA => by cases hA⟩
      rw [hl, ← ns_take]
      have := HR.out.take (k := m + 1) hk
      simpa using this

set_option maxRecDepth 100000 in
set_option maxHeartbeats 1000000 in
theorem of_any (w : World) (n : Nat) (hn : n < 18446744073709551616) :
    Calls Tryz.prog 89 #[.int .u64 n] w fun e w' => ∃ v, e = .returned v ∧ NatR w' (fun g => w.heap.size ≤ g) v n ∧ Below w.heap.size w w' := by
  obtain ⟨i0, hi0, hz0, hz1, hz2⟩ := info_parts u32_info
  have hlen : (ofN n).length ≤ 3 := ofN_length_le n 3 (by unfold BB; omega)
  have HLEN := Lib.hid hlen
  have HN := Lib.hid hn
  clear hlen hn
  go_enter Tryz.func89, Tryz.ntmps89
  go_wp2_with fail
  go_loopw [0, 3] (fun nv av wr => ∃ (m k : Nat) (out : List Nat), nv = .int .u64 m ∧ Hid (m < 18446744073709551616) ∧ Hid (ofN n = out ++ ofN m) ∧ Hid (out.length = k) ∧ Own wr (fun g => w.heap.size ≤ g) 109 1 av k (ns out) ∧ Below w.heap.size w wr) (fun nv _ _ => (intOf nv).toNat)
  case atStart => exact ⟨n, 0, [], rfl, HN, Lib.hid rfl, Lib.hid rfl, Own.nil_ _ _ _ _, Below.refl _ _⟩
  obtain ⟨m, k, out, rfl, HM, HE, HK, ho, hb⟩ := hrel
  by_cases hm : m = 0
  · subst hm
    have HO := Lib.hid ho
    have HB := Lib.hid hb
    clear ho hb
    go_wp2_with fail
    go_ret
    refine ⟨_, rfl, ?_, HB.out⟩
    unfold NatR
    rw [HE.out, ofN_zero, List.append_nil]
    exact HO.out.dig
  · have hk3 : k < 3 := by
      have := HLEN.out
      rw [HE.out, ofN_pos m hm, List.length_append, List.length_cons, HK.out] at this
      omega
    have hm1 : (m : Int).tmod 1000000000 = ((m % 1000000000 : Nat) : Int) := by rw [Int.tmod_eq_emod_of_nonneg (by omega)]; rfl
    have hm2 : (m : Int).tdiv 1000000000 = ((m / 1000000000 : Nat) : Int) := by rw [Int.tdiv_eq_ediv_of_nonneg (by omega)]; rfl
    have hm3 : IntKind.u32.wrap ((m % 1000000000 : Nat) : Int) = ((m % 1000000000 : Nat) : Int) := u32_wrap _ (by omega) (by omega)
    have hm4 : IntKind.u64.wrap ((m / 1000000000 : Nat) : Int) = ((m / 1000000000 : Nat) : Int) := IntWalk.u64_in _ ⟨by omega, by have := HM.out; omega⟩
    have hm5 : IntKind.u64.wrap ((m % 1000000000 : Nat) : Int) = ((m % 1000000000 : Nat) : Int) := IntWalk.u64_in _ ⟨by omega, by omega⟩
    obtain ⟨q, hq⟩ : ∃ q, q = m / 1000000000 := ⟨_, rfl⟩
    obtain ⟨r, hr⟩ : ∃ r, r = m % 1000000000 := ⟨_, rfl⟩
    have hm6 : (m : Int) / 1000000000 = (q : Int) := by omega
    have hm7 : (m : Int) % 1000000000 = (r : Int) := by omega
    rw [← hq] at hm2 hm4
    rw [← hr] at hm1 hm3 hm5
    have hmp : 0 < m := by omega
    have HQ := Lib.hid hq
    have HRR := Lib.hid hr
    have HMM := Lib.hid hm
    clear hq hr hm
    go_wp2_with (at_builtin; go_must (refine wpList_append_any _ rfl _ _ 79 rfl 109 i0 _ 1 4 Tryz.underlying79 hi0 hz0 hz1 hz2 rfl (by omega) u3 k _ rfl (ho.alloc _) _ 1 1 _ rfl (lit_readsN _ _ [.int .u32 r] 1 rfl) (by intro u hu; simp at hu; rw [hu]; rfl) (by unfold maxLen; omega) (by omega) ?_); intro v' w3 happ)
    have hbz := hb.size
    obtain ⟨o3, b3⟩ := appBelow happ (B := w.heap.size) (by simp; omega) (fun g hg => ho.2 g hg)
    go_roundw
    case rel =>
      refine ⟨q, k + 1, out ++ [r], rfl, ?_, ?_, ?_, ?_, ?_⟩
      · show q < 18446744073709551616
        have := HM.out
        rw [HQ.out]; omega
      · show ofN n = _
        rw [HE.out, ofN_pos m HMM.out, List.append_assoc, HQ.out, HRR.out]; rfl
      · show _ = _
        rw [List.length_append, HK.out]; rfl
      · rw [ns_app]; exact o3
      · exact (hb.alloc (by omega) _).trans b3
    case measure => simp [intOf]; have := HQ.out; omega
set_option maxRecDepth 100000 in
theorem zero_any (w : World) (T : Nat → Prop) (v : Value) (n : Nat) (h : NatR w T v n) : Calls Tryz.prog 75 #[v] w fun e w' => e = .returned (.bool (decide (n = 0))) ∧ w' = w := by
  obtain ⟨A, c, rfl, -⟩ := h
  have h0 := ofN_length_zero n
  by_cases hn : n = 0
  · have hl := h0.2 hn
    have hd : decide (n = 0) = true := by simpa using hn
    rw [hl, hd]
    clear h0 hn hl hd
    go_enter Tryz.func75, Tryz.ntmps75
    go_wp2_with fail
    go_ret
    exact ⟨rfl, rfl⟩
  · have hl : ¬ (ofN n).length = 0 := fun h => hn (h0.1 h)
    have hd : decide (n = 0) = false := by simpa using hn
    rw [hd]
    generalize (ofN n).length = k at *
    have hl1 : ((k : Int) == 0) = false := by simpa using hl
    clear h0 hn hd
    go_enter Tryz.func75, Tryz.ntmps75
    go_wp2_with fail
    go_ret
    exact ⟨rfl, rfl⟩
theorem ofN_one : ofN 1 = [1] := by rw [ofN_pos 1 (by decide)]; show 1 % BB :: ofN (1 / BB) = [1]; rw [show 1 / BB = 0 by decide, ofN_zero]; rfl
set_option maxRecDepth 100000 in
theorem one_any (w : World) (T : Nat → Prop) (v : Value) (n : Nat) (h : NatR w T v n) : Calls Tryz.prog 43 #[v] w fun e w' => e = .returned (.bool (decide (n = 1))) ∧ w' = w := by
  have h0 : (ofN n).length = 1 → ofN n = [n] := by
    intro h1
    have := val_ofN n
    match hh : ofN n, h1 with
    | [d], _ =>
      rw [hh] at this
      have e : d = n := by simpa [val] using this
      rw [e]
  obtain ⟨A, c, rfl, hr, -⟩ := h
  by_cases hl : (ofN n).length = 1
  · rw [h0 hl] at hr ⊢
    obtain ⟨ad, u, rfl, -, -, hu, hc⟩ := hr.at_ (k := 0) (by simp)
    rw [ns_get _ 0 (by simp)] at hu
    injection hu with hu
    subst hu
    rw [show ad.add 0 = ad from by simp [Addr.add]] at hc
    simp only [List.length_singleton, List.getElem_cons_zero] at hc ⊢
    clear h0 hr
    by_cases hn : n = 1
    · subst hn
      clear hl
      go_enter Tryz.func43, Tryz.ntmps43
      go_wp2_with fail
      go_ret
      exact ⟨rfl, rfl⟩
    · have hx1 : ((n : Int) == 1) = false := by simp; omega
      have hd : decide (n = 1) = false := by simpa using hn
      rw [hd]
      clear hl hn hd
      go_enter Tryz.func43, Tryz.ntmps43
      go_wp2_with fail
      go_ret
      exact ⟨rfl, rfl⟩
  · have hd : decide (n = 1) = false := by
      simp only [decide_eq_false_iff_not]
      rintro rfl
      rw [ofN_one] at hl
      exact hl rfl
    rw [hd]
    clear h0 hd hr
    generalize (ofN n).length = k at *
    have hl1 : ((k : Int) == 1) = false := by simp; omega
    clear hl
    go_enter Tryz.func43, Tryz.ntmps43
    go_wp2_with fail
    go_ret
    exact ⟨rfl, rfl⟩
end Go.Proofs.YtempdomhbfokmaaGreatDoor

namespace Go.Proofs.YtempdomhbfokmaaGreatDoor

theorem val_take_d (l : List Nat) (k : Nat) : val (l.take (k + 1)) = val (l.take k) + BB ^ k * l.getD k 0 := by
  by_cases h : k < l.length
  · rw [val_take_succ l k h]
    simp [List.getD, h]
  · rw [List.take_of_length_le (by omega), List.take_of_length_le (by omega)]
    simp [List.getD, List.getElem?_eq_none (show l.length ≤ k by omega)]
theorem pow_succ_mul (k z : Nat) : BB ^ (k + 1) * z = BB ^ k * (BB * z) := by rw [Nat.pow_succ, Nat.mul_assoc]
theorem getD_lt {l : List Nat} (h : digs l) (k : Nat) : l.getD k 0 < BB := by
  by_cases hk : k < l.length
  · simp only [List.getD, List.getElem?_eq_getElem hk, Option.getD_some]; exact digs_get h k hk
  · simp [List.getD, List.getElem?_eq_none (show l.length ≤ k by omega)]; exact BB_pos
theorem val_set_take (l : List Nat) (k d : Nat) (h : k < l.length) : val ((l.set k d).take (k + 1)) = val (l.take k) + BB ^ k * d := by
  rw [val_take_succ _ k (by simpa using h)]
  simp [List.take_set_of_le]
theorem set_drop (l : List Nat) (k d j : Nat) (h : k < j) : (l.set k d).drop j = l.drop j := by rw [List.drop_set_of_lt h]
/-- a sum -/
theorem add_step (la lb out : List Nat) (k cy s : Nat) (hk : out.length = k) (hs : s = la.getD k 0 + cy + lb.getD k 0) (h : val out + BB ^ k * cy = val (la.take k) + val (lb.take k)) :
    val (out ++ [s % BB]) + BB ^ (k + 1) * (s / BB) = val (la.take (k + 1)) + val (lb.take (k + 1)) := by
  rw [val_snoc, hk, val_take_d la k, val_take_d lb k, pow_succ_mul, Nat.add_assoc, ← Nat.mul_add, Nat.mod_add_div, hs, Nat.mul_add, Nat.mul_add]
  omega
/-- a difference -/
theorem sub_step (la lb out : List Nat) (k bw d bw' : Nat) (hk : k < out.length) (hs : la.getD k 0 + BB * bw' = d + (bw + lb.getD k 0)) (h : val (la.take k) + BB ^ k * bw = val (out.take k) + val (lb.take k)) :
    val (la.take (k + 1)) + BB ^ (k + 1) * bw' = val ((out.set k d).take (k + 1)) + val (lb.take (k + 1)) := by
  rw [val_set_take out k d hk, val_take_d la k, val_take_d lb k, pow_succ_mul, Nat.add_assoc, ← Nat.mul_add, hs, Nat.mul_add, Nat.mul_add]
  omega
/-- a number times a digit -/
theorem scaled_step (la out : List Nat) (k cy t by' : Nat) (hk : k < out.length) (ht : t = cy + la.getD k 0 * by') (h : val (out.take k) + BB ^ k * cy = by' * val (la.take k)) :
    val ((out.set k (t % BB)).take (k + 1)) + BB ^ (k + 1) * (t / BB) = by' * val (la.take (k + 1)) := by
  rw [val_set_take out k _ hk, val_take_d la k, pow_succ_mul, Nat.add_assoc, ← Nat.mul_add, Nat.mod_add_div, ht, Nat.mul_add, Nat.mul_add, ← Nat.mul_assoc by', Nat.mul_comm by' (BB ^ k), Nat.mul_assoc (BB ^ k), Nat.mul_comm by' (la.getD k 0)]
  omega
/-- the inner step of a product: out[i + k] -/
theorem mul_step (lb out : List Nat) (i k cy t x W : Nat) (hk : i + k < out.length) (ht : t = x * lb.getD k 0 + out.getD (i + k) 0 + cy)
    (h : val out + BB ^ (i + k) * cy = W + BB ^ i * (x * val (lb.take k))) :
    val (out.set (i + k) (t % BB)) + BB ^ (i + (k + 1)) * (t / BB) = W + BB ^ i * (x * val (lb.take (k + 1))) := by
  have h1 := val_set out (i + k) (t % BB) hk
  have h2 : out[i + k] = out.getD (i + k) 0 := by simp [List.getD, hk]
  rw [h2] at h1
  rw [val_take_d lb k, show i + (k + 1) = (i + k) + 1 from rfl, pow_succ_mul]
  have h3 : BB ^ (i + k) * (t % BB) + BB ^ (i + k) * (BB * (t / BB)) = BB ^ (i + k) * t := by rw [← Nat.mul_add, Nat.mod_add_div]
  have h4 : BB ^ (i + k) * t = BB ^ i * (x * (BB ^ k * lb.getD k 0)) + BB ^ (i + k) * out.getD (i + k) 0 + BB ^ (i + k) * cy := by
    rw [ht, Nat.mul_add, Nat.mul_add, Nat.pow_add]
    congr 2
    rw [Nat.mul_assoc]
    congr 1
    rw [← Nat.mul_assoc, Nat.mul_comm (BB ^ k) x, Nat.mul_assoc]
  rw [Nat.mul_add x, Nat.mul_add (BB ^ i)]
  omega
/-- the outer step of a product: the last digit -/
theorem mul_last (la lb out : List Nat) (i cy x : Nat) (hi : i + lb.length < out.length) (hx : x = la.getD i 0) (h0 : out[i + lb.length] = 0)
    (h : val out + BB ^ (i + lb.length) * cy = val (la.take i) * val lb + BB ^ i * (x * val (lb.take lb.length))) :
    val (out.set (i + lb.length) cy) = val (la.take (i + 1)) * val lb := by
  have h1 := val_set out (i + lb.length) cy hi
  rw [h0, Nat.mul_zero, Nat.add_zero] at h1
  rw [h1, h, List.take_of_length_le (Nat.le_refl _), val_take_d la i, Nat.add_mul, hx, Nat.mul_assoc]
/-- a quotient by a digit -/
theorem short_step (la out : List Nat) (i rest t by' : Nat) (hi : i < la.length) (hio : i < out.length) (ht : t = rest * BB + la[i]) (h : val (la.drop (i + 1)) = by' * val (out.drop (i + 1)) + rest) :
    val (la.drop i) = by' * val ((out.set i (t / by')).drop i) + t % by' := by
  rw [List.drop_eq_getElem_cons hi, val, h]
  have e : (out.set i (t / by')).drop i = t / by' :: out.drop (i + 1) := by
    rw [List.drop_eq_getElem_cons (by simpa using hio), set_drop _ _ _ _ (by omega)]
    simp
  rw [e, val, Nat.mul_add, Nat.mul_add]
  have h1 := Nat.div_add_mod t by'
  have h2 : BB * (by' * val (out.drop (i + 1))) = by' * (BB * val (out.drop (i + 1))) := by rw [← Nat.mul_assoc, Nat.mul_comm BB by', Nat.mul_assoc]
  rw [h2]
  have h3 : BB * rest = rest * BB := Nat.mul_comm _ _
  omega
/-- u minus q times v, by digits -/
theorem less_step (u v u' : List Nat) (k cy t q d c' : Nat) (hk : k < u'.length) (ht : t = cy + q * v.getD k 0) (hd : u.getD k 0 + BB * (c' - t / BB) = d + t % BB) (hc : t / BB ≤ c') (h : val (u.take k) + BB ^ k * cy = val (u'.take k) + q * val (v.take k)) :
    val (u.take (k + 1)) + BB ^ (k + 1) * c' = val ((u'.set k d).take (k + 1)) + q * val (v.take (k + 1)) := by
  rw [val_set_take u' k d hk, val_take_d u k, val_take_d v k, pow_succ_mul, Nat.add_assoc, ← Nat.mul_add]
  have h1 : BB * (c' - t / BB) = BB * c' - BB * (t / BB) := Nat.mul_sub _ _ _
  have h2 : BB * (t / BB) ≤ BB * c' := Nat.mul_le_mul_left _ hc
  have h3 := Nat.mod_add_div t BB
  have h4 : u.getD k 0 + BB * c' = d + t := by omega
  rw [h4, ht, Nat.mul_add, Nat.mul_add, Nat.mul_add, ← Nat.mul_assoc q, Nat.mul_comm q (BB ^ k), Nat.mul_assoc (BB ^ k)]
  omega
/-- u plus v, by digits, in place -/
theorem more_step (u v u' : List Nat) (k cy s : Nat) (hk : k < u'.length) (hs : s = u.getD k 0 + cy + v.getD k 0) (h : val (u'.take k) + BB ^ k * cy = val (u.take k) + val (v.take k)) :
    val ((u'.set k (s % BB)).take (k + 1)) + BB ^ (k + 1) * (s / BB) = val (u.take (k + 1)) + val (v.take (k + 1)) := by
  rw [val_set_take u' k _ hk, val_take_d u k, val_take_d v k, pow_succ_mul, Nat.add_assoc, ← Nat.mul_add, Nat.mod_add_div, hs, Nat.mul_add, Nat.mul_add]
  omega

/-- The first trial of a digit is not too small, and the second test leaves it at most one too great. -/
theorem digit_low (U V q top v1 U1 V1 P : Nat) (hU : U = U1 + P * top) (hU1 : U1 < P) (hV : V = V1 + P * v1) (h : q * V ≤ U) : q * v1 ≤ top := by
  have h1 : P * (q * v1) ≤ U := by
    have : P * (q * v1) ≤ q * V := by rw [hV, Nat.mul_add, ← Nat.mul_assoc q, Nat.mul_comm q P, Nat.mul_assoc]; omega
    omega
  rw [hU] at h1
  have h2 : P * (q * v1) < P * (top + 1) := by rw [Nat.mul_add, Nat.mul_one]; omega
  exact Nat.lt_succ_iff.1 (Nat.lt_of_mul_lt_mul_left h2)
/-- at most one too great: q (V2) ≤ U3, where U3 are the first three digits of U and V2 the first two of V -/
theorem digit_high (U V q U3 V2 V0 P : Nat) (hU : P * U3 ≤ U) (hV : V = V0 + P * V2) (hV0 : V0 < P) (hq : q ≤ V2) (h : q * V2 ≤ U3) : q * V ≤ U + V := by
  have h1 : q * V = q * V0 + P * (q * V2) := by rw [hV, Nat.mul_add, ← Nat.mul_assoc q, Nat.mul_comm q P, Nat.mul_assoc]
  have h2 : P * (q * V2) ≤ P * U3 := Nat.mul_le_mul_left _ h
  have h3 : q * V0 ≤ P * V2 := by
    calc q * V0 ≤ V2 * V0 := Nat.mul_le_mul_right _ hq
      _ ≤ V2 * P := Nat.mul_le_mul_left _ (by omega)
      _ = P * V2 := Nat.mul_comm _ _
  omega
end Go.Proofs.YtempdomhbfokmaaGreatDoor

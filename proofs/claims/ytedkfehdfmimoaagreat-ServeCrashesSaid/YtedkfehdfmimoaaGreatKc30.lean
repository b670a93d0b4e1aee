/- A call out of the log is made again. What was told before a crash is told behind it, in plain words. New, the walk. Demo. The first state is Ok; Now. Waiting. Log. The methods of Stream: each returns some number of its range, moves the stream's place, and keeps all else. Conditions: none beside the stream's own form. -/
import Derived.Test.YtedkfehdfmimoaaGreatKc18
import Derived.Test.YtedkfehdfmimoaaGreatKc29
import Derived.Test.YtedkfehdfmimoaaGreatKc25
import Derived.Test.YtedkfehdfmimoaaGreatKc28
import Derived.Test.YtedkfehdfmimoaaGreatKc19
import Derived.Laws.Rows
import Derived.Deep.DeepCutAuto
import Derived.Test.YtedkfehdfmimoaaGreatKc23
import Derived.Test.YtedkfehdfmimoaaGreatKc20
import Derived.Test.YtedkfehdfmimoaaGreatRows
import Derived.Test.YtedkfehdfmimoaaGreatKc1
namespace Go.Proofs.YtedkfehdfmimoaaGreat
open Go.RowKit

theorem i32_low (n : Int) (h : -2147483648 ≤ n ∧ n ≤ 2147483647) : IntKind.i32.wrap (leF (lowF n 4)) = n := by
  rw [leF_low4, IntKind.wrap_i32]
  omega
theorem Cal.args_in {s : Srv} (hs : s.Ok) {o : Cal} (hf : o.Few) (h : (s.cal o).2 = 0) : inRange (-2147483648) 2147483647 o.args := by
  cases o with
  | submit r =>
    have h0' : (s.submit r).2 = 0 := h
    have h0 : s.accErr r = 0 := by
      unfold Srv.submit at h0'
      split at h0'
      · assumption
      · exact h0'
    obtain ⟨⟨i1, i2, i3, i4, i5, i6, i7, i8⟩, b2, b3, -⟩ := accErr_ok h0
    have hv := hs.M.vocab
    intro t ht
    rcases List.mem_append.1 ht with ht | ht
    · simp only [List.mem_cons, List.not_mem_nil, or_false] at ht
      rcases ht with rfl | rfl | rfl | rfl | rfl <;> omega
    · rw [List.any_eq_false] at b3
      have := b3 t ht
      unfold badTok at this
      simp at this
      omega
  | cancel id =>
    intro t ht
    have : t = id := by simpa [Cal.args] using ht
    have := hf.1
    have := hf.2
    omega
  | tick => intro t ht; cases ht

def packF (l : List Int) : List Int := l.flatMap fun n => lowF n 4
theorem packF_length (l : List Int) : (packF l).length = 4 * l.length := flat4_length l
theorem packF_bytes (l : List Int) : isBytes (packF l) := by
  intro x hx
  obtain ⟨n, -, h⟩ := List.mem_flatMap.1 hx
  exact lowF_bytes _ _ x h
theorem pack_drop (l : List Int) (k : Nat) (h : k < l.length) : packF (l.drop k) = lowF l[k] 4 ++ packF (l.drop (k + 1)) := by
  rw [List.drop_eq_getElem_cons h]; rfl
/-- the next four bytes, and what lies behind them -/
theorem pack_next {w : World} {T : Nat → Prop} {A : Option Addr} {d c : Nat} {x : Int} {rest : List Int} (h : Reads w T 1 A d (bytes (lowF x 4 ++ packF rest))) (hc : d ≤ c) :
    4 ≤ d ∧ Reads w T 1 A 4 (bytes (lowF x 4)) ∧ Reads w T 1 (if c = 4 then A else A.map (·.add 4)) (d - 4) (bytes (packF rest)) := by
  have hl := h.1
  rw [bytes_length, List.length_append, lowF_length] at hl
  have h4 : 4 ≤ d := by omega
  have h1 := h.take (k := 4) h4
  have h2 := Reads.cut h (k := 4) (cap := c) h4 hc
  rw [Nat.mul_one] at h1 h2
  rw [← bytes_take, List.take_left' (lowF_length _ _)] at h1
  rw [← bytes_drop, List.drop_left' (lowF_length _ _)] at h2
  exact ⟨h4, h1, h2⟩

def sLen (b : Value) : Nat := match b with
  | .slice _ d _ => d
  | _ => 0
theorem sLen_slice (A : Option Addr) (d c : Nat) : sLen (.slice A d c) = d := rfl
/-- a call's arguments, read out of its record -/
structure ArgsIn (w W : World) (own : Nat → Slot) (o : Cal) (v : Value) : Prop where
  row : Own W (fun g => w.heap.size ≤ g) 3 1 v o.args.length (ints o.args)
  bel : Below w.heap.size w W

set_option maxRecDepth 100000 in
set_option maxHeartbeats 4000000 in
theorem call_any (w : World) (own : Nat → Slot) (P : Ptrs) (s : Srv) (h : Rep w own P s) (hs : Inv s) (hrec : s.records ≤ 9000) (o : Cal) (hf : o.Few) (h0 : (s.cal o).2 = 0) (A : Option Addr) (c N : Nat) (hN : N = 1 + 4 * o.args.length) (T : Nat → Prop) (hr : Reads w T 1 A N (bytes (bodyF o.kind o.args))) (hc : N + 4 ≤ c) (hcm : c ≤ maxLen) :
    Calls Tryz.prog 52 #[.pointer (some ⟨P.sa, 0, none⟩), .slice A N c] w fun e w' => e = .returned (.bool true) ∧ ∃ own' P', Rep w' own' P' (s.cal o).1 ∧ Step w own P w' own' P' s.reqs.length := by
  obtain ⟨i0, hi, hz0, hz1, hz2⟩ := info_parts int_info
  have HR := Lib.hid h
  replace hr := hr.old
  have HS := Lib.hid hs
  have HREC := Lib.hid hrec
  have H0 := Lib.hid h0
  have HARG := Lib.hid (o.args_in hs.ok hf h0)
  have hn37 := Cal.args_length h0
  have HF := Lib.hid hf
  obtain ⟨ad, rfl, hb1, hb2, hbc⟩ := hr.2 (by omega)
  have hk : 0 ≤ o.kind ∧ o.kind ≤ 255 := by cases o <;> (show (0 : Int) ≤ _ ∧ _; simp [Cal.kind])
  have q0 : w.cell? ad = some (.int .u8 o.kind) := by
    have := hbc 0 (.int .u8 o.kind) (by show some (Value.int .u8 (o.kind % 256)) = _; rw [Int.emod_eq_of_lt hk.1 (by omega)])
    simpa [Addr.add] using this
  obtain ⟨kd, hkd⟩ : ∃ kd, kd = o.kind := ⟨_, rfl⟩
  rw [← hkd] at q0 hk
  have HKD := Lib.hid hkd
  clear hkd
  have h1 := Reads.cut hr (k := 1) (cap := c) (by omega) (by omega)
  rw [Nat.mul_one, ← bytes_drop] at h1
  have e1 : (bodyF o.kind o.args).drop 1 = packF (o.args.drop 0) := rfl
  have hc1 : ¬ c = 1 := by omega
  rw [e1, if_neg hc1, Option.map_some, show ad.add 1 = { block := ad.block, off := ad.off + 1 } from rfl] at h1
  have hm1 : (N : Int) % 4 = 1 := by omega
  have HN := Lib.hid hN
  have hN0 : 1 ≤ N := by omega
  unfold maxLen at hcm
  obtain ⟨n, hn⟩ : ∃ n, n = o.args.length := ⟨_, rfl⟩
  have HNN := Lib.hid hn
  rw [← hn] at hn37
  have hNle : N ≤ 1 + 4 * n := by omega
  have hNge : 1 + 4 * n ≤ N := by omega
  clear h hs hrec h0 hf hr hbc hN hn
  have hNb : ((N : Int) == 0) = false := by simp; omega
  go_enter Tryz.func52, Tryz.ntmps52
  go_wp2_with fail
  clear hm1
  go_loopw [1, 6] (fun b v wr => ∃ k d : Nat, ∃ bd : Addr, ∃ c' : Nat, k ≤ n ∧ d + 4 * k ≤ 4 * n ∧ 4 * n ≤ d + 4 * k ∧ b = .slice (some bd) d c' ∧ d < c' ∧ c' ≤ 9223372036854775807 ∧ Reads wr (· < w.heap.size) 1 (some bd) d (bytes (packF (o.args.drop k))) ∧ Own wr (fun g => w.heap.size ≤ g) 3 1 v k (ints (o.args.take k)) ∧ Below w.heap.size w wr) (fun b _ _ => sLen b)
  case atStart => exact ⟨0, N - 1, _, _, by omega, by omega, by omega, rfl, by omega, by omega, h1, by rw [List.take_zero]; exact Own.nil_ _ _ _ _, Below.refl _ _⟩
  obtain ⟨k, d, bd, c', x1, x2, x3, rfl, x4, x5, hrd, ho, hb⟩ := hrel
  clear h1 hb1 hb2 q0
  by_cases hlt : k < n
  · have hlt2 : k < o.args.length := by rw [← HNN.out]; exact hlt
    rw [pack_drop _ _ hlt2] at hrd
    obtain ⟨y1, y2, y3⟩ := pack_next hrd (Nat.le_of_lt x4)
    have y4 : ¬ c' = 4 := by omega
    rw [if_neg y4, Option.map_some, show bd.add 4 = { block := bd.block, off := bd.off + 4 } from rfl] at y3
    have hnum := number_any wr (· < w.heap.size) (some bd) c' (lowF o.args[k] 4) (by rw [lowF_length]; exact y2) (by rw [lowF_length]; omega) (lowF_bytes _ _)
    rw [lowF_length] at hnum
    have HNUM := Lib.hid hnum
    have HX := Lib.hid (i32_low _ (HARG.out _ (List.getElem_mem hlt2)))
    have HXX := Lib.hid (HARG.out _ (List.getElem_mem hlt2))
    have HT := Lib.hid (List.take_succ_eq_append_getElem hlt2)
    generalize o.args[k] = x at *
    obtain ⟨z1, z2⟩ := HXX.out
    have Y3 := Lib.hid y3
    have HO := Lib.hid ho
    have hwz := hb.size
    clear hrd y2 y3 hnum ho
    go_wp2_with fail
    refine HNUM.out.mono ?_
    rintro e w2 ⟨rfl, rfl⟩
    have hxx := HX.out
    go_wp2_with (at_builtin; go_must (refine wpList_append_any _ rfl _ _ 22 rfl 3 i0 _ 1 8 Tryz.underlying22 hi hz0 hz1 hz2 rfl (by omega) u6 _ _ rfl (HO.out.alloc _) _ 1 1 _ rfl (reads_new _ _ [(x : Int)] 1 rfl) (ints_one _) (by unfold maxLen; omega) (by omega) ?_); intro v' w4 happ)
    obtain ⟨o1, o2⟩ := appBelow happ (B := w.heap.size) (by simp; omega) (fun g hg => HO.out.2 g hg)
    have hb4 : Below w.heap.size w w4 := (hb.alloc hwz _).trans o2
    have y4 := Y3.out.keep (w' := w4) (by have := o2.size; simp at this; omega) (fun p _ ht => (hb4.cell ht).trans (hb.cell ht).symm)
    go_roundw
    case rel => exact ⟨k + 1, d - 4, _, _, by omega, by omega, by omega, rfl, by omega, by omega, y4, by rw [HT.out]; simpa [ints] using o1, hb4⟩
    case measure => simp [sLen]; omega
  · obtain rfl : k = n := by omega
    obtain rfl : d = 0 := by omega
    rw [List.take_of_length_le (by rw [← HNN.out]; exact Nat.le_refl _)] at ho
    have HO := Lib.hid ho
    have HB := Lib.hid hb
    clear hrd ho hb
    generalize u6 = v at *
    cases o with
    | tick =>
      have hk0 : k = 0 := HNN.out
      subst hk0
      obtain rfl : kd = 4 := HKD.out
      obtain ⟨Av, cv, rfl, -, -⟩ := HO.out.shape
      go_wp2_with fail
      refine (tick_any wr own P s (HR.out.fresh HB.out) HS.out.ok HS.out.now HREC.out s.reqs.length (Nat.le_refl _)).mono ?_
      rintro e w3 ⟨rfl, own3, P3, rep3, st3⟩
      have hfin : ∃ own' P', Rep w3 own' P' (s.cal .tick).1 ∧ Step w own P w3 own' P' s.reqs.length := ⟨own3, P3, rep3, (Step.fresh HB.out own P _).tr st3⟩
      have HFIN := Lib.hid hfin
      clear rep3 st3 hfin
      go_wp2_with fail
      go_ret
      exact ⟨rfl, HFIN.out⟩
    | cancel id =>
      have hk0 : k = 1 := HNN.out
      subst hk0
      obtain rfl : kd = 2 := HKD.out
      obtain ⟨g, cv, rfl, -, -, -, -⟩ := HO.out.form (by decide)
      have g0 : wr.cell? ⟨g, 0, none⟩ = some (.int .i64 id) := HO.out.get 0 (by decide)
      have h0' : (s.cancel id).2 = 0 := H0.out
      have hca := cancel_any wr own P s (HR.out.fresh HB.out) HS.out.ok HREC.out id HF.out s.reqs.length (Nat.le_refl _)
      rw [h0'] at hca
      have HCA := Lib.hid hca
      clear h0' hca
      go_wp2_with fail
      refine HCA.out.mono ?_
      rintro e w3 ⟨rfl, own3, P3, rep3, st3⟩
      have hfin : ∃ own' P', Rep w3 own' P' (s.cal (.cancel id)).1 ∧ Step w own P w3 own' P' s.reqs.length := ⟨own3, P3, rep3, (Step.fresh HB.out own P _).tr st3⟩
      have HFIN := Lib.hid hfin
      clear rep3 st3 hfin
      go_wp2_with fail
      go_ret
      exact ⟨rfl, HFIN.out⟩
    | submit r =>
      obtain rfl : kd = 1 := HKD.out
      have hk : k = 5 + r.prompt.length := by rw [HNN.out]; show (_ ++ r.prompt).length = _; simp; omega
      have h0' : (s.submit r).2 = 0 := H0.out
      have hacc : s.accErr r = 0 := by
        unfold Srv.submit at h0'
        split at h0'
        · assumption
        · exact h0'
      obtain ⟨-, b2, -⟩ := accErr_ok hacc
      obtain ⟨q, hq⟩ : ∃ q, q = r.prompt.length := ⟨_, rfl⟩
      rw [← hq] at b2 hk
      have hargs : (Cal.submit r).args.length = k := HNN.out.symm
      have ho := HO.out
      obtain ⟨g, cv, rfl, f1, f2, -, -⟩ := ho.form (by omega)
      have g0 : wr.cell? ⟨g, 0, none⟩ = some (.int .i64 r.id) := ho.get 0 (by omega)
      have g1 : wr.cell? ⟨g, 1, none⟩ = some (.int .i64 r.deadline) := ho.get 1 (by omega)
      have g2 : wr.cell? ⟨g, 2, none⟩ = some (.int .i64 r.most) := ho.get 2 (by omega)
      have g3 : wr.cell? ⟨g, 3, none⟩ = some (.int .i64 r.seed) := ho.get 3 (by omega)
      have g4 : wr.cell? ⟨g, 4, none⟩ = some (.int .i64 (q : Int)) := by rw [hq]; exact ho.get 4 (by omega)
      have hcut := Reads.cut ho.reads (k := 5) (cap := cv) (by omega) f1
      have hcv : ¬ cv = 5 := by omega
      rw [if_neg hcv, Nat.mul_one] at hcut
      have hpr : Slc wr (fun _ => True) (.slice (some ⟨g, 5, none⟩) q (cv - 5)) r.prompt := by
        have e1 : k - 5 = q := by omega
        have e2 : (ints (Cal.submit r).args).drop 5 = ints r.prompt := rfl
        rw [e1, e2, hq] at hcut
        refine ⟨some ⟨g, 5, none⟩, cv - 5, by rw [hq], (hcut : Reads wr _ 1 (some ⟨g, 0 + 5, none⟩) _ _).more fun _ _ _ => trivial, by omega, by omega, fun e => by cases e⟩
      have hsub := submit_any (wr.drew) own P s ((HR.out.fresh HB.out).drewN 1) HS.out.ok HREC.out r _ _ (hpr.drewN 1) (by omega)
      rw [h0'] at hsub
      unfold askVal at hsub
      have HSUB := Lib.hid hsub
      have HO := Lib.hid ho
      clear ho h0' hacc hsub hpr hcut hargs
      unfold maxLen at f2
      have hk5 : (5 : Int) ≤ (k : Int) := by omega
      have hk10 : 0 < k := by omega
      have hk11 : 1 < k := by omega
      have hk12 : 2 < k := by omega
      have hk13 : 3 < k := by omega
      have hk14 : (1 : Int) < (k : Int) := by omega
      have hk15 : (2 : Int) < (k : Int) := by omega
      have hk16 : (3 : Int) < (k : Int) := by omega
      have hkq : (q : Int) = (k : Int) - 5 := by omega
      have HQ := Lib.hid hq
      have HK := Lib.hid hk
      clear hq hk
      go_wp2_with fail
      go_still_tail 16, (by kernel_rfl)
      change wpList _ _ _ _ _ wr.drew
      go_wp2_with fail
      have e5 : k - 5 = q := by omega
      rw [e5]
      refine HSUB.out.mono ?_
      rintro e w3 ⟨rfl, own3, P3, rep3, st3⟩
      have hfin : ∃ own' P', Rep w3 own' P' (s.cal (.submit r)).1 ∧ Step w own P w3 own' P' s.reqs.length := ⟨own3, P3, rep3, ((Step.fresh HB.out own P _).drewN 1).tr st3⟩
      have HFIN := Lib.hid hfin
      clear rep3 st3 hfin
      go_wp2_with fail
      go_ret
      exact ⟨rfl, HFIN.out⟩
end Go.Proofs.YtedkfehdfmimoaaGreat

namespace Go.Proofs.YtedkfehdfmimoaaGreat
open Go.RowKit
section
variable {M : Model} {c : CConf} {s : Srv} {l : List Cal}
theorem take_succ_of (l : List Cal) (j : Nat) (o : Cal) (h : l[j]? = some o) : l.take (j + 1) = l.take j ++ [o] := by
  rw [List.take_add_one, h]; rfl
theorem Hist.log_at (h : Hist M c s l) (hi : (Srv.init M c).Ok) (hl : l.length ≤ 9000) : ∀ j, j ≤ l.length → (runC M c (l.take j)).log = headF M c.ns ++ recs 0 (l.take j) := by
  intro j
  induction j with
  | zero => intro _; show headF M c.ns = _; simp [recs]
  | succ j ih =>
    intro hj
    obtain ⟨o, ho⟩ : ∃ o, l[j]? = some o := ⟨_, List.getElem?_eq_getElem (by omega)⟩
    obtain ⟨a1, -, -, a4⟩ := h.at_ hi hl j (by omega)
    rw [runC_take M c l j o ho, cal_log _ a1 (by rw [a4]; omega) o (h.ok j o ho), ih (by omega), a4, take_succ_of l j o ho, recs_snoc, List.append_assoc, List.length_take, Nat.min_eq_left (by omega), Nat.zero_add]
theorem recs_mono (l : List Cal) (a b : Nat) (h : a ≤ b) : (recs 0 (l.take a)).length ≤ (recs 0 (l.take b)).length := by
  have e : l.take b = l.take a ++ (l.take b).drop a := by
    conv => lhs; rw [← List.take_append_drop a (l.take b)]
    rw [List.take_take, Nat.min_eq_left h]
  rw [e, recs_append, List.length_append]
  omega
theorem Hist.run (h : Hist M c s l) : runC M c l = s.mark (runC M c l).synced (runC M c l).replay := by
  have := congrArg (fun x : Srv => x.mark (runC M c l).synced (runC M c l).replay) h.eq
  exact this.symm
theorem Hist.req_eq (h : Hist M c s l) (i : Nat) : (runC M c l).req i = s.req i := by rw [h.run]; rfl
theorem Hist.reqs_eq (h : Hist M c s l) : (runC M c l).reqs = s.reqs := by rw [h.run]; rfl
theorem Hist.log_eq (h : Hist M c s l) : (runC M c l).log = s.log := by rw [h.run]; rfl
theorem Hist.records_eq (h : Hist M c s l) : (runC M c l).records = s.records := by rw [h.run]; rfl
/-- what s's own invariants are -/
theorem Hist.inv (h : Hist M c s l) (hi : (Srv.init M c).Ok) (hl : l.length ≤ 9000) : At M c l.length s := by
  obtain ⟨a1, a2, a3, a4⟩ := h.at_ hi hl l.length (Nat.le_refl _)
  rw [List.take_length] at a1 a2 a3 a4
  have e : s = (runC M c l).mark s.synced s.replay := by rw [h.run]; rfl
  refine ⟨?_, ?_, ?_, ?_⟩
  · rw [e]; exact a1.mark _ _
  · rw [e]; exact a2
  · rw [e]; exact a3
  · rw [e]; exact a4
theorem Hist.told_at (h : Hist M c s l) (hi : (Srv.init M c).Ok) (hl : l.length ≤ 9000) (j : Nat) (hj : j ≤ l.length) (x : Nat) (hnext : j < l.length → x < (headF M c.ns ++ recs 0 (l.take (j + 1))).length) (i : Nat) (h1 : i < s.reqs.length) (he : (s.req i).ended = true) (hk : (s.req i).kept ≤ x) :
    ∀ d, d ≤ l.length - j → i < (runC M c (l.take (l.length - d))).reqs.length ∧ core ((runC M c (l.take (l.length - d))).req i) = core (s.req i) := by
  intro d
  induction d with
  | zero =>
    intro _
    rw [Nat.sub_zero, List.take_length, h.req_eq, h.reqs_eq]
    exact ⟨h1, rfl⟩
  | succ d ih =>
    intro hd
    obtain ⟨b1, b2⟩ := ih (by omega)
    obtain ⟨m, hm⟩ : ∃ m, m = l.length - (d + 1) := ⟨_, rfl⟩
    rw [← hm]
    rw [show l.length - d = m + 1 by omega] at b1 b2
    obtain ⟨o, ho⟩ : ∃ o, l[m]? = some o := ⟨_, List.getElem?_eq_getElem (by omega)⟩
    obtain ⟨a1, -, -, a4⟩ := h.at_ hi hl m (by omega)
    obtain ⟨-, L⟩ := cal_later _ a1 (by rw [a4]; omega) o (h.few o (List.mem_of_getElem? ho)) (h.ok m o ho)
    rw [← runC_take M c l m o ho] at L
    rcases L.old i b1 (by rw [core_ended b2]; exact he) with ⟨c1, -, c3⟩ | c1
    · exact ⟨c1, c3.symm.trans b2⟩
    · have hlg := h.log_at hi hl (m + 1) (by omega)
      rw [hlg] at c1
      have e := (core_id b2).2.2.2.2.2.2.2.2.2
      have h3 := hnext (by omega)
      have h4 := recs_mono l (j + 1) (m + 1) (by omega)
      rw [List.length_append] at h3 c1
      omega
theorem answer_told (h : Hist M c s l) (hi : (Srv.init M c).Ok) (hl : l.length ≤ 9000) (hrep : s.replay = false) (j : Nat) (hj : j ≤ l.length) (x : Nat) (hx : s.synced ≤ x) (hnext : j < l.length → x < (headF M c.ns ++ recs 0 (l.take (j + 1))).length)
    (id : Int) (hok : (s.answer id).2.2 = true) : ((runC M c (l.take j)).mark (runC M c (l.take j)).log.length false).answer id = s.answer id := by
  unfold Srv.answer at hok
  cases hf : s.find id with
  | none => rw [hf] at hok; cases hok
  | some i =>
    rw [hf] at hok
    dsimp only at hok
    obtain ⟨f1, f2⟩ := find_some hf
    cases ht : s.told (s.req i) with
    | false => rw [ht] at hok; cases hok
    | true =>
      have ht' := ht
      unfold Srv.told at ht'
      rw [hrep] at ht'
      simp at ht'
      have key := h.told_at hi hl j hj x hnext i f1 ht'.1 (by omega) (l.length - j) (Nat.le_refl _)
      rw [show l.length - (l.length - j) = j by omega] at key
      obtain ⟨k1, k2⟩ := key
      obtain ⟨c1, c2, c3, c4, c5, c6, c7, c8, c9, c10⟩ := core_id k2
      obtain ⟨a1, -, -, -⟩ := h.at_ hi hl j hj
      generalize runC M c (l.take j) = t at *
      have hf2 : (t.mark t.log.length false).find id = some i := by
        show t.find id = some i
        cases hfi : t.find id with
        | none => exact absurd (c1.trans f2) ((find_iff t id).1 hfi i k1)
        | some j2 =>
          obtain ⟨j1, j3⟩ := find_some hfi
          rw [a1.ok.distinct j2 i j1 k1 (j3.trans (c1.trans f2).symm)]
      have hr : (t.mark t.log.length false).req i = t.req i := rfl
      have ht2 : (t.mark t.log.length false).told (t.req i) = true := by
        have := (a1.ok.reqs i k1).kept.2
        show ((t.req i).ended && (false || decide ((t.req i).kept ≤ (t.log.length : Int)))) = true
        rw [c8, ht'.1]
        simp [this]
      unfold Srv.answer
      rw [hf2, hf]
      dsimp only
      rw [hr, ht2, ht, if_pos rfl, if_pos rfl, c9, c6, c3]
end
end Go.Proofs.YtedkfehdfmimoaaGreat

namespace Go.Proofs.YtedkfehdfmimoaaGreat
open Go.RowKit

theorem headF_length (M : Model) (c : CConf) : (headF M c.ns).length = 28 := by
  unfold headF
  rw [sealF_length, headTo_length _ _ _ (Nat.le_refl _)]
  rfl
set_option maxRecDepth 100000 in
set_option maxHeartbeats 2000000 in
theorem new_any (w : World) (T : Nat → Prop) (M : Model) (v4 v5 v6 v7 v8 v9 v10 : Value) (h : MSl w T M v4 v5 v6 v7 v8 v9 v10) (hM : M.Ok) (hk : M.kind = 1) (c : CConf) (hc : c.Ok) :
    Calls Tryz.prog 7 #[.agg #[.int .i64 M.kind, .int .i64 M.vocab, .int .i64 M.width, .int .i64 M.top, v4, v5, v6, v7, v8, v9, v10], .agg #[.int .i64 c.pages, .int .i64 c.pageSize, .int .i64 c.batch, .int .i64 c.queue]] w fun e w' => ∃ own P, e = .returned (.tuple #[.pointer (some ⟨P.sa, 0, none⟩), .int .i64 0]) ∧ Rep w' own P (Srv.init M c) ∧ (∀ g, g < w.heap.size → own g = .other) ∧ Below w.heap.size w w' := by
  have hb0 : Below w.heap.size w ((w.alloc (.cells #[.int .i64 M.kind, .int .i64 M.vocab, .int .i64 M.width, .int .i64 M.top, v4, v5, v6, v7, v8, v9, v10] 27)).alloc (.cells #[.int .i64 c.pages, .int .i64 c.pageSize, .int .i64 c.batch, .int .i64 c.queue] 30)) := ((Below.refl _ _).alloc (Nat.le_refl _) _).alloc (by simp) _
  have kb := (Blk.new w 27 #[.int .i64 M.kind, .int .i64 M.vocab, .int .i64 M.width, .int .i64 M.top, v4, v5, v6, v7, v8, v9, v10]).alloc (.cells #[.int .i64 c.pages, .int .i64 c.pageSize, .int .i64 c.batch, .int .i64 c.queue] 30)
  have kc := Blk.new (w.alloc (.cells #[.int .i64 M.kind, .int .i64 M.vocab, .int .i64 M.width, .int .i64 M.top, v4, v5, v6, v7, v8, v9, v10] 27)) 30 #[.int .i64 c.pages, .int .i64 c.pageSize, .int .i64 c.batch, .int .i64 c.queue]
  rw [show (w.alloc (.cells #[.int .i64 M.kind, .int .i64 M.vocab, .int .i64 M.width, .int .i64 M.top, v4, v5, v6, v7, v8, v9, v10] 27)).heap.size = w.heap.size + 1 by simp] at kc
  have HVO := Lib.hid (vocab_any _ _ M v4 v5 v6 v7 v8 v9 v10 (h.fresh hb0) hM)
  have H0 := Lib.hid ((h.old.rows).fresh hb0)
  have HM := Lib.hid hM
  have HK := Lib.hid hk
  have HC := Lib.hid hc
  have HB0 := Lib.hid hb0
  have KB := Lib.hid kb
  have KC := Lib.hid kc
  clear h hM hk hc hb0 kb kc
  go_enter Tryz.func7, Tryz.ntmps7
  go_wp2_with fail
  refine HVO.out.mono ?_
  rintro e w1 ⟨rfl, hb1⟩
  obtain ⟨b, hb⟩ : ∃ b, b = w.heap.size := ⟨_, rfl⟩
  have kb1 := KB.out.below hb1 (by simp <;> omega)
  have kc1 := KC.out.below hb1 (by simp <;> omega)
  rw [← hb] at kb1 kc1 ⊢
  have e0 : w1.cell? ⟨b + 1, 0, none⟩ = some (.int .i64 c.pages) := kc1.cell 0
  have e1 : w1.cell? ⟨b + 1, 1, none⟩ = some (.int .i64 c.pageSize) := kc1.cell 1
  have e2 : w1.cell? ⟨b + 1, 2, none⟩ = some (.int .i64 c.batch) := kc1.cell 2
  have e3 : w1.cell? ⟨b + 1, 3, none⟩ = some (.int .i64 c.queue) := kc1.cell 3
  have HBE := Lib.hid hb
  have HR1 := Lib.hid (H0.out.fresh hb1)
  have HB1 := Lib.hid (HB0.out.trans (hb1.mono HB0.out.size))
  have hz1 : b + 1 < w1.heap.size := by have := hb1.size; simp at this; omega
  have KB1 := Lib.hid kb1
  have KC1 := Lib.hid kc1
  have h1 : win c.pages 1 64 = true := by have := HC.out.pages; simp [win]; omega
  have h2 : win c.pageSize 1 8 = true := by have := HC.out.pageSize; simp [win]; omega
  have h3 : win c.batch 1 16 = true := by have := HC.out.batch; simp [win]; omega
  have h4 : win c.queue 1 32 = true := by have := HC.out.queue; simp [win]; omega
  have HW1 := Lib.hid h1
  have HW2 := Lib.hid h2
  have HW3 := Lib.hid h3
  have HW4 := Lib.hid h4
  clear hb hb1 kb1 kc1 h1 h2 h3 h4
  go_wp2_with ((go_at_call 28; refine (swithin_any _ _ _ _).mono ?_; rintro e w' ⟨rfl, rfl⟩; first | rw [HW1.out] | rw [HW2.out] | rw [HW3.out] | rw [HW4.out]))
  have kq := Blk.new w1 64 #[.pointer (some ⟨b, 4, none⟩), .pointer (some ⟨b, 5, none⟩), .pointer (some ⟨b, 6, none⟩), .pointer (some ⟨b, 7, none⟩), .pointer (some ⟨b, 8, none⟩), .pointer (some ⟨b, 9, none⟩), .pointer (some ⟨b, 10, none⟩)]
  have kb2 := KB1.out.alloc (.cells #[.pointer (some ⟨b, 4, none⟩), .pointer (some ⟨b, 5, none⟩), .pointer (some ⟨b, 6, none⟩), .pointer (some ⟨b, 7, none⟩), .pointer (some ⟨b, 8, none⟩), .pointer (some ⟨b, 9, none⟩), .pointer (some ⟨b, 10, none⟩)] 64)
  have kc2 := KC1.out.alloc (.cells #[.pointer (some ⟨b, 4, none⟩), .pointer (some ⟨b, 5, none⟩), .pointer (some ⟨b, 6, none⟩), .pointer (some ⟨b, 7, none⟩), .pointer (some ⟨b, 8, none⟩), .pointer (some ⟨b, 9, none⟩), .pointer (some ⟨b, 10, none⟩)] 64)
  have hr2 := HR1.out.alloc (.cells #[.pointer (some ⟨b, 4, none⟩), .pointer (some ⟨b, 5, none⟩), .pointer (some ⟨b, 6, none⟩), .pointer (some ⟨b, 7, none⟩), .pointer (some ⟨b, 8, none⟩), .pointer (some ⟨b, 9, none⟩), .pointer (some ⟨b, 10, none⟩)] 64)
  have hb2 := HB1.out.alloc (by have := HBE.out; omega) (.cells #[.pointer (some ⟨b, 4, none⟩), .pointer (some ⟨b, 5, none⟩), .pointer (some ⟨b, 6, none⟩), .pointer (some ⟨b, 7, none⟩), .pointer (some ⟨b, 8, none⟩), .pointer (some ⟨b, 9, none⟩), .pointer (some ⟨b, 10, none⟩)] 64)
  have hz2 : (w1.alloc (.cells #[.pointer (some ⟨b, 4, none⟩), .pointer (some ⟨b, 5, none⟩), .pointer (some ⟨b, 6, none⟩), .pointer (some ⟨b, 7, none⟩), .pointer (some ⟨b, 8, none⟩), .pointer (some ⟨b, 9, none⟩), .pointer (some ⟨b, 10, none⟩)] 64)).heap.size = w1.heap.size + 1 := by simp
  generalize w1.alloc (.cells #[.pointer (some ⟨b, 4, none⟩), .pointer (some ⟨b, 5, none⟩), .pointer (some ⟨b, 6, none⟩), .pointer (some ⟨b, 7, none⟩), .pointer (some ⟨b, 8, none⟩), .pointer (some ⟨b, 9, none⟩), .pointer (some ⟨b, 10, none⟩)] 64) = W at *
  have hzW : w1.heap.size < W.heap.size := by omega
  have KQ := Lib.hid kq
  have KB2 := Lib.hid kb2
  have KC2 := Lib.hid kc2
  have HR2 := Lib.hid hr2
  have HB2 := Lib.hid hb2
  clear kq kb2 kc2 hr2 hb2 hz2 e0 e1 e2 e3
  obtain ⟨q, hq⟩ : ∃ q, q = w1.heap.size := ⟨_, rfl⟩
  rw [← hq] at KQ hzW hz1 ⊢
  clear hq
  go_loopw [9, 52] (fun _ i wr => ∃ (k : Nat) (vs : List Value), k ≤ 7 ∧ i = .int .i64 k ∧ vs.length = 7 ∧ Blk wr b 27 (mcell M vs) ∧ (∀ j (hj : j < M.ls.length), ∃ v, vs[j]? = some v ∧ (j < k → Slc wr (W.heap.size ≤ ·) v M.ls[j]) ∧ (k ≤ j → Slc wr (· < w.heap.size) v M.ls[j])) ∧ Keeps (· = b) W wr) (fun _ i _ => 7 - (intOf i).toNat)
  case atStart =>
    refine ⟨0, [v4, v5, v6, v7, v8, v9, v10], by omega, rfl, rfl, KB2.out, fun j hj => ?_, Keeps.refl _ _⟩
    obtain ⟨v, hv, hs⟩ := HR2.out.2 j hj
    exact ⟨v, hv, fun h => by omega, fun _ => hs⟩
  obtain ⟨k, vs, hk7, rfl, hvs, hblk, hrow, hkp⟩ := hrel
  have hwz := hkp.size
  by_cases hlt : k < 7
  · have hkl : k < M.ls.length := hlt
    obtain ⟨v, hv, -, hslc⟩ := hrow k hkl
    have hslc := hslc (Nat.le_refl _)
    have hsm := HM.out.small HK.out _ (List.getElem_mem hkl)
    have kq4 := hkp.blk KQ.out (by omega)
    have c1 : wr.cell? ⟨q, k, none⟩ = some (.pointer (some ⟨b, 4 + k, none⟩)) := by
      rw [kq4.cell k]
      match k, hlt with
      | 0, _ => rfl
      | 1, _ => rfl
      | 2, _ => rfl
      | 3, _ => rfl
      | 4, _ => rfl
      | 5, _ => rfl
      | 6, _ => rfl
    have c2 : wr.cell? ⟨b, 4 + k, none⟩ = some v := by rw [hblk.cell (4 + k), mcell_get, hv]
    have HCL := Lib.hid (clone_slc wr _ v M.ls[k] hslc (by omega))
    obtain ⟨Av, cv, rfl⟩ := hslc.len
    have HBLK := Lib.hid hblk
    have HROW := Lib.hid hrow
    have HKP := Lib.hid hkp
    have HVS := Lib.hid hvs
    clear hblk hrow hkp kq4 hv hslc hsm hvs
    go_wp2_with fail
    refine HCL.out.mono ?_
    rintro e w3 ⟨v', rfl, hown, hb3⟩
    have kb3 := HBLK.out.below hb3 HBLK.out.lt
    have d2 := (kb3.cell (4 + k)).trans ((HBLK.out.cell (4 + k)).symm.trans c2)
    have d3 := kb3.frozen (4 + k)
    obtain ⟨A', c', rfl, -, -⟩ := hown.shape
    have KB3 := Lib.hid kb3
    have HOWN := Lib.hid hown
    have HB3 := Lib.hid hb3
    have hzb3 := hb3.size
    clear kb3 hown hb3 c1 c2
    go_wp2_with fail
    go_roundw
    case rel =>
      have hbb := HBE.out
      refine ⟨k + 1, vs.set k (.slice A' (M.ls[k]'hkl).length c'), by omega, by go_num, by rw [List.length_set]; exact HVS.out, by rw [← mcell_set]; exact KB3.out.set_ _ _, fun j hj => ?_, (HKP.out.fresh HB3.out).setCell (fun _ => rfl) _⟩
      obtain ⟨v, hv, h1, h2⟩ := HROW.out j hj
      have kk : Keeps (· = b) w3 (w3.setCell ⟨b, 4 + k, none⟩ (.slice A' (M.ls[k]'hkl).length c')) := Keeps.setCell (p := ⟨b, 4 + k, none⟩) (Keeps.refl (· = b) w3) (fun _ => rfl) _
      by_cases hjk : j = k
      · subst hjk
        refine ⟨_, List.getElem?_set_self (by rw [HVS.out]; exact hlt), fun _ => (HOWN.out.slc.keeps kk (by omega)).more fun g _ hg => by omega, fun h => by omega⟩
      · refine ⟨v, by rw [List.getElem?_set_ne (by omega)]; exact hv, fun h => ((h1 (by omega)).fresh HB3.out).keeps kk (by intro i hi; omega), fun h => ((h2 (by omega)).fresh HB3.out).keeps kk (by intro i hi; omega)⟩
    case measure => simp [intOf]; omega
  · obtain rfl : k = 7 := by omega
    obtain ⟨x4, x5, x6, x7, x8, x9, x10, rfl⟩ : ∃ x4 x5 x6 x7 x8 x9 x10, vs = [x4, x5, x6, x7, x8, x9, x10] := by
      match vs, hvs with
      | [a, b, c, d, e, f, g], _ => exact ⟨_, _, _, _, _, _, _, rfl⟩
    have row : ∀ j (hj : j < M.ls.length) x, [x4, x5, x6, x7, x8, x9, x10][j]? = some x → Slc wr (W.heap.size ≤ ·) x M.ls[j] := fun j hj x hx => by
      obtain ⟨v, hv, h1, -⟩ := hrow j hj
      rw [hv] at hx
      injection hx with hx
      subst hx
      exact h1 hj
    have hm : MSl wr (W.heap.size ≤ ·) M x4 x5 x6 x7 x8 x9 x10 := ⟨row 0 (show _ < 7 by decide) _ rfl, row 1 (show _ < 7 by decide) _ rfl, row 2 (show _ < 7 by decide) _ rfl, row 3 (show _ < 7 by decide) _ rfl, row 4 (show _ < 7 by decide) _ rfl, row 5 (show _ < 7 by decide) _ rfl, row 6 (show _ < 7 by decide) _ rfl⟩
    have hblk' : Blk wr b 27 #[.int .i64 M.kind, .int .i64 M.vocab, .int .i64 M.width, .int .i64 M.top, x4, x5, x6, x7, x8, x9, x10] := hblk
    have kc3 := hkp.blk KC2.out (by omega)
    obtain ⟨c0, c1, c2, c3, c4, c5, c6, c7, c8, c9, c10⟩ := mcells hblk'
    have e0 : wr.cell? ⟨b + 1, 0, none⟩ = some (.int .i64 c.pages) := kc3.cell 0
    have e1 : wr.cell? ⟨b + 1, 1, none⟩ = some (.int .i64 c.pageSize) := kc3.cell 1
    have e2 : wr.cell? ⟨b + 1, 2, none⟩ = some (.int .i64 c.batch) := kc3.cell 2
    have e3 : wr.cell? ⟨b + 1, 3, none⟩ = some (.int .i64 c.queue) := kc3.cell 3
    have hbel : Below w.heap.size w wr := by
      have h1 := HB2.out
      have hbb := HBE.out
      exact ⟨hkp.os.trans h1.os, hkp.tape.trans h1.tape, hkp.output.trans h1.output, Nat.le_trans h1.size hkp.size, fun g hg => (hkp.block g (by have := h1.size; omega) (by omega)).trans (h1.block g hg)⟩
    have HM3 := Lib.hid hm
    have KB3 := Lib.hid hblk'
    have KC3 := Lib.hid kc3
    have HBEL := Lib.hid hbel
    have hbz : b + 1 < wr.heap.size := by omega
    have hbz' : b < wr.heap.size := by omega
    have hmm := @run_makeMap Tryz.prog
    obtain ⟨i0, hi, hy0, hy1, hy2⟩ := info_parts page_info
    have hp := HC.out.pages
    have hmk := fun W => run_make (P := Tryz.prog) W 68 106 i0 _ Tryz.underlying68 hi hy0 .i64 .i64 c.pages c.pages (by omega) (by omega) (by rw [hy2]; omega) (by omega)
    simp only [Int.toNat_natCast, hy1] at hmk
    rw [show (Value.agg #[Value.int IntKind.i64 0, Value.slice none 0 0, Value.int IntKind.i64 0, Value.int IntKind.i64 0]).cells = zeroCells from rfl, made_pages] at hmk
    clear hkp hblk hblk' hrow hvs row hm kc3 hbel hi hy0 hy1 hy2
    obtain ⟨zr, hzr⟩ : ∃ zr, zr = wr.heap.size := ⟨_, rfl⟩
    go_wp2_with fail
    go_region
    · have hz2 : ((wr.alloc (.map #[] 0)).alloc (.cells (pagesFrom (fun _ => .slice none 0 0) 0 (List.replicate c.pages zeroPage)).toArray 106)).heap.size = wr.heap.size + 1 + 1 := by simp
      have ks : Blk (((wr.alloc (.map #[] 0)).alloc (.cells (pagesFrom (fun _ => .slice none 0 0) 0 (List.replicate c.pages zeroPage)).toArray 106)).alloc (.cells #[.int .i64 M.kind, .int .i64 M.vocab, .int .i64 M.width, .int .i64 M.top, x4, x5, x6, x7, x8, x9, x10, .int .i64 c.pages, .int .i64 c.pageSize, .int .i64 c.batch, .int .i64 c.queue, .int .i64 M.vocab, .int .i64 0, .map (some (wr.heap.size)), .slice (some ⟨wr.heap.size + 1, 0, none⟩) c.pages c.pages, .slice none 0 0, .int .i64 0, .int .i64 0, .bool false] 70)).drew (wr.heap.size + 1 + 1) 70 #[.int .i64 M.kind, .int .i64 M.vocab, .int .i64 M.width, .int .i64 M.top, x4, x5, x6, x7, x8, x9, x10, .int .i64 c.pages, .int .i64 c.pageSize, .int .i64 c.batch, .int .i64 c.queue, .int .i64 M.vocab, .int .i64 0, .map (some (wr.heap.size)), .slice (some ⟨wr.heap.size + 1, 0, none⟩) c.pages c.pages, .slice none 0 0, .int .i64 0, .int .i64 0, .bool false] := by rw [← hz2]; exact (Blk.new ((wr.alloc (.map #[] 0)).alloc (.cells (pagesFrom (fun _ => .slice none 0 0) 0 (List.replicate c.pages zeroPage)).toArray 106)) 70 _).drew
      have hza : (wr.alloc (.map #[] 0)).heap.size = wr.heap.size + 1 := by simp
      have hbn : Below wr.heap.size wr ((((wr.alloc (.map #[] 0)).alloc (.cells (pagesFrom (fun _ => .slice none 0 0) 0 (List.replicate c.pages zeroPage)).toArray 106)).alloc (.cells #[.int .i64 M.kind, .int .i64 M.vocab, .int .i64 M.width, .int .i64 M.top, x4, x5, x6, x7, x8, x9, x10, .int .i64 c.pages, .int .i64 c.pageSize, .int .i64 c.batch, .int .i64 c.queue, .int .i64 M.vocab, .int .i64 0, .map (some (wr.heap.size)), .slice (some ⟨wr.heap.size + 1, 0, none⟩) c.pages c.pages, .slice none 0 0, .int .i64 0, .int .i64 0, .bool false] 70)).drew) := ((((Below.refl _ _).alloc (Nat.le_refl _) _).alloc (by simp) _).alloc (by simp <;> omega) _).drew
      have hbn1 : Below (wr.heap.size + 1) (wr.alloc (.map #[] 0)) ((((wr.alloc (.map #[] 0)).alloc (.cells (pagesFrom (fun _ => .slice none 0 0) 0 (List.replicate c.pages zeroPage)).toArray 106)).alloc (.cells #[.int .i64 M.kind, .int .i64 M.vocab, .int .i64 M.width, .int .i64 M.top, x4, x5, x6, x7, x8, x9, x10, .int .i64 c.pages, .int .i64 c.pageSize, .int .i64 c.batch, .int .i64 c.queue, .int .i64 M.vocab, .int .i64 0, .map (some (wr.heap.size)), .slice (some ⟨wr.heap.size + 1, 0, none⟩) c.pages c.pages, .slice none 0 0, .int .i64 0, .int .i64 0, .bool false] 70)).drew) := (((Below.refl _ _).alloc (by simp) _).alloc (by simp) _).drew
      have hbn2 : Below (wr.heap.size + 1 + 1) ((wr.alloc (.map #[] 0)).alloc (.cells (pagesFrom (fun _ => .slice none 0 0) 0 (List.replicate c.pages zeroPage)).toArray 106)) ((((wr.alloc (.map #[] 0)).alloc (.cells (pagesFrom (fun _ => .slice none 0 0) 0 (List.replicate c.pages zeroPage)).toArray 106)).alloc (.cells #[.int .i64 M.kind, .int .i64 M.vocab, .int .i64 M.width, .int .i64 M.top, x4, x5, x6, x7, x8, x9, x10, .int .i64 c.pages, .int .i64 c.pageSize, .int .i64 c.batch, .int .i64 c.queue, .int .i64 M.vocab, .int .i64 0, .map (some (wr.heap.size)), .slice (some ⟨wr.heap.size + 1, 0, none⟩) c.pages c.pages, .slice none 0 0, .int .i64 0, .int .i64 0, .bool false] 70)).drew) := ((Below.refl _ _).alloc (by simp) _).drew
      have km : MapIs ((((wr.alloc (.map #[] 0)).alloc (.cells (pagesFrom (fun _ => .slice none 0 0) 0 (List.replicate c.pages zeroPage)).toArray 106)).alloc (.cells #[.int .i64 M.kind, .int .i64 M.vocab, .int .i64 M.width, .int .i64 M.top, x4, x5, x6, x7, x8, x9, x10, .int .i64 c.pages, .int .i64 c.pageSize, .int .i64 c.batch, .int .i64 c.queue, .int .i64 M.vocab, .int .i64 0, .map (some (wr.heap.size)), .slice (some ⟨wr.heap.size + 1, 0, none⟩) c.pages c.pages, .slice none 0 0, .int .i64 0, .int .i64 0, .bool false] 70)).drew) wr.heap.size [] := (MapIs.new wr).keep (hbn1.block _ (by omega))
      have kp : Blk ((((wr.alloc (.map #[] 0)).alloc (.cells (pagesFrom (fun _ => .slice none 0 0) 0 (List.replicate c.pages zeroPage)).toArray 106)).alloc (.cells #[.int .i64 M.kind, .int .i64 M.vocab, .int .i64 M.width, .int .i64 M.top, x4, x5, x6, x7, x8, x9, x10, .int .i64 c.pages, .int .i64 c.pageSize, .int .i64 c.batch, .int .i64 c.queue, .int .i64 M.vocab, .int .i64 0, .map (some (wr.heap.size)), .slice (some ⟨wr.heap.size + 1, 0, none⟩) c.pages c.pages, .slice none 0 0, .int .i64 0, .int .i64 0, .bool false] 70)).drew) (wr.heap.size + 1) 106 (pagesFrom (fun _ => .slice none 0 0) 0 (List.replicate c.pages zeroPage)).toArray := by
        have k1 := Blk.new (wr.alloc (.map #[] 0)) 106 (pagesFrom (fun _ => .slice none 0 0) 0 (List.replicate c.pages zeroPage)).toArray
        rw [hza] at k1
        exact k1.below hbn2 (by omega)
      have hzn : ((((wr.alloc (.map #[] 0)).alloc (.cells (pagesFrom (fun _ => .slice none 0 0) 0 (List.replicate c.pages zeroPage)).toArray 106)).alloc (.cells #[.int .i64 M.kind, .int .i64 M.vocab, .int .i64 M.width, .int .i64 M.top, x4, x5, x6, x7, x8, x9, x10, .int .i64 c.pages, .int .i64 c.pageSize, .int .i64 c.batch, .int .i64 c.queue, .int .i64 M.vocab, .int .i64 0, .map (some (wr.heap.size)), .slice (some ⟨wr.heap.size + 1, 0, none⟩) c.pages c.pages, .slice none 0 0, .int .i64 0, .int .i64 0, .bool false] 70)).drew).heap.size = wr.heap.size + 3 := by simp
      clear hza hz2 hbn1 hbn2
      generalize (((wr.alloc (.map #[] 0)).alloc (.cells (pagesFrom (fun _ => .slice none 0 0) 0 (List.replicate c.pages zeroPage)).toArray 106)).alloc (.cells #[.int .i64 M.kind, .int .i64 M.vocab, .int .i64 M.width, .int .i64 M.top, x4, x5, x6, x7, x8, x9, x10, .int .i64 c.pages, .int .i64 c.pageSize, .int .i64 c.batch, .int .i64 c.queue, .int .i64 M.vocab, .int .i64 0, .map (some (wr.heap.size)), .slice (some ⟨wr.heap.size + 1, 0, none⟩) c.pages c.pages, .slice none 0 0, .int .i64 0, .int .i64 0, .bool false] 70)).drew = W5 at *
      obtain ⟨sb, hsb⟩ : ∃ sb, sb = wr.heap.size + 1 + 1 := ⟨_, rfl⟩
      rw [← hsb] at ks ⊢
      obtain ⟨mb, hmb⟩ : ∃ mb, mb = wr.heap.size := ⟨_, rfl⟩
      obtain ⟨pb, hpb⟩ : ∃ pb, pb = wr.heap.size + 1 := ⟨_, rfl⟩
      rw [← hmb] at km
      rw [← hpb] at kp
      rw [← hpb, ← hmb] at ks
      have HMB : Hid (zr ≤ mb ∧ mb < zr + 2 ∧ zr ≤ pb ∧ pb < zr + 2 ∧ mb ≠ pb) := Lib.hid (by omega)
      clear hmb hpb
      have hsz : sb = zr + 2 := by omega
      have hzW5 : W5.heap.size = zr + 3 := by omega
      have HZR := Lib.hid hzr
      have HSZ := Lib.hid hsz
      have HZ5 := Lib.hid hzW5
      clear hsb hzn hzr hsz hzW5
      have hm5 : MSl W5 (fun g => W.heap.size ≤ g ∧ g < wr.heap.size) M x4 x5 x6 x7 x8 x9 x10 := (HM3.out.more fun g hg h => ⟨h, hg⟩).fresh hbn
      have kb5 := KB3.out.below hbn KB3.out.lt
      have kc5 := KC3.out.below hbn KC3.out.lt
      clear c0 c1 c2 c3 c4 c5 c6 c7 c8 c9 c10 e0 e1 e2 e3
      obtain ⟨c0, c1, c2, c3, c4, c5, c6, c7, c8, c9, c10⟩ := mcells kb5
      have e0 : W5.cell? ⟨b + 1, 0, none⟩ = some (.int .i64 c.pages) := kc5.cell 0
      have e1 : W5.cell? ⟨b + 1, 1, none⟩ = some (.int .i64 c.pageSize) := kc5.cell 1
      have e2 : W5.cell? ⟨b + 1, 2, none⟩ = some (.int .i64 c.batch) := kc5.cell 2
      have e3 : W5.cell? ⟨b + 1, 3, none⟩ = some (.int .i64 c.queue) := kc5.cell 3
      have HHD := Lib.hid (head_any W5 _ M x4 x5 x6 x7 x8 x9 x10 hm5 HM.out HK.out c HC.out)
      have HM5 := Lib.hid hm5
      have HBN := Lib.hid (HBEL.out.trans (hbn.mono HBEL.out.size))
      have KS := Lib.hid ks
      have KM := Lib.hid km
      have KP := Lib.hid kp
      clear hm5 hbn ks km kp kb5 kc5 hmm hmk
      go_wp2_with fail
      refine HHD.out.mono ?_
      rintro e w6 ⟨vl, rfl, hl, hb6⟩
      obtain ⟨Al, cl, rfl, -, -⟩ := hl.shape
      have ks6 := KS.out.below hb6 KS.out.lt
      have d19 : w6.cell? ⟨sb, 19, none⟩ = some (.slice none 0 0) := ks6.cell 19
      have d21 : w6.cell? ⟨sb, 21, none⟩ = some (.int .i64 0) := ks6.cell 21
      have f19 := ks6.frozen 19
      have f21 := ks6.frozen 21
      have HL := Lib.hid hl
      have KS6 := Lib.hid ks6
      have HB6 := Lib.hid hb6
      clear hl ks6 hb6 c0 c1 c2 c3 c4 c5 c6 c7 c8 c9 c10 e0 e1 e2 e3
      go_wp2_with fail
      go_ret2
      have kk : Keeps (· = sb) w6 ((w6.setCell ⟨sb, 19, none⟩ (.slice Al 28 cl)).setCell ⟨sb, 21, none⟩ (.int .i64 28)) := Keeps.setCell (p := ⟨sb, 21, none⟩) (Keeps.setCell (p := ⟨sb, 19, none⟩) (Keeps.refl (· = sb) w6) (fun _ => rfl) _) (fun _ => rfl) _
      obtain ⟨m1, m2, m3, m4, m5⟩ := HMB.out
      have hz6 := HB6.out.size
      have hwz' := HB2.out.size
      have hzr := HZR.out
      have hsz := HSZ.out
      have hzW5 := HZ5.out
      have hbb := HBE.out
      obtain ⟨own, P, hsa, hrep, hold⟩ := rep_init ((w6.setCell ⟨sb, 19, none⟩ (.slice Al 28 cl)).setCell ⟨sb, 21, none⟩ (.int .i64 28)) M c sb mb pb W.heap.size wr.heap.size W5.heap.size x4 x5 x6 x7 x8 x9 x10 _
        ((KS6.out.set_ 19 _).set_ 21 _) (KM.out.keep ((kk.block _ (by omega) (by omega)).trans (HB6.out.block _ (by omega)))) (kk.blk (KP.out.below HB6.out (by omega)) (by omega))
        (HL.out.keeps kk (by intro i hi; omega)) (headF_length M c) ((HM5.out.fresh HB6.out).keeps kk (by intro i hi; omega)) (by omega) (by omega) (by omega) (by omega) (by omega) (by omega) hwz (by have := kk.size; omega)
      refine ⟨own, P, by subst hsa; rfl, hrep, fun g hg => hold g (by omega), ?_⟩
      have h6 := HBN.out.trans (HB6.out.mono HBN.out.size)
      exact (h6.setCell (p := ⟨sb, 19, none⟩) (by show w.heap.size ≤ sb; omega) _).setCell (p := ⟨sb, 21, none⟩) (by show w.heap.size ≤ sb; omega) _
    · have hz2 : ((wr.alloc (.cells (pagesFrom (fun _ => .slice none 0 0) 0 (List.replicate c.pages zeroPage)).toArray 106)).alloc (.map #[] 0)).heap.size = wr.heap.size + 1 + 1 := by simp
      have ks : Blk (((wr.alloc (.cells (pagesFrom (fun _ => .slice none 0 0) 0 (List.replicate c.pages zeroPage)).toArray 106)).alloc (.map #[] 0)).alloc (.cells #[.int .i64 M.kind, .int .i64 M.vocab, .int .i64 M.width, .int .i64 M.top, x4, x5, x6, x7, x8, x9, x10, .int .i64 c.pages, .int .i64 c.pageSize, .int .i64 c.batch, .int .i64 c.queue, .int .i64 M.vocab, .int .i64 0, .map (some (wr.heap.size + 1)), .slice (some ⟨wr.heap.size, 0, none⟩) c.pages c.pages, .slice none 0 0, .int .i64 0, .int .i64 0, .bool false] 70)).drew (wr.heap.size + 1 + 1) 70 #[.int .i64 M.kind, .int .i64 M.vocab, .int .i64 M.width, .int .i64 M.top, x4, x5, x6, x7, x8, x9, x10, .int .i64 c.pages, .int .i64 c.pageSize, .int .i64 c.batch, .int .i64 c.queue, .int .i64 M.vocab, .int .i64 0, .map (some (wr.heap.size + 1)), .slice (some ⟨wr.heap.size, 0, none⟩) c.pages c.pages, .slice none 0 0, .int .i64 0, .int .i64 0, .bool false] := by rw [← hz2]; exact (Blk.new ((wr.alloc (.cells (pagesFrom (fun _ => .slice none 0 0) 0 (List.replicate c.pages zeroPage)).toArray 106)).alloc (.map #[] 0)) 70 _).drew
      have hza : (wr.alloc (.cells (pagesFrom (fun _ => .slice none 0 0) 0 (List.replicate c.pages zeroPage)).toArray 106)).heap.size = wr.heap.size + 1 := by simp
      have hbn : Below wr.heap.size wr ((((wr.alloc (.cells (pagesFrom (fun _ => .slice none 0 0) 0 (List.replicate c.pages zeroPage)).toArray 106)).alloc (.map #[] 0)).alloc (.cells #[.int .i64 M.kind, .int .i64 M.vocab, .int .i64 M.width, .int .i64 M.top, x4, x5, x6, x7, x8, x9, x10, .int .i64 c.pages, .int .i64 c.pageSize, .int .i64 c.batch, .int .i64 c.queue, .int .i64 M.vocab, .int .i64 0, .map (some (wr.heap.size + 1)), .slice (some ⟨wr.heap.size, 0, none⟩) c.pages c.pages, .slice none 0 0, .int .i64 0, .int .i64 0, .bool false] 70)).drew) := ((((Below.refl _ _).alloc (Nat.le_refl _) _).alloc (by simp) _).alloc (by simp <;> omega) _).drew
      have hbn1 : Below (wr.heap.size + 1) (wr.alloc (.cells (pagesFrom (fun _ => .slice none 0 0) 0 (List.replicate c.pages zeroPage)).toArray 106)) ((((wr.alloc (.cells (pagesFrom (fun _ => .slice none 0 0) 0 (List.replicate c.pages zeroPage)).toArray 106)).alloc (.map #[] 0)).alloc (.cells #[.int .i64 M.kind, .int .i64 M.vocab, .int .i64 M.width, .int .i64 M.top, x4, x5, x6, x7, x8, x9, x10, .int .i64 c.pages, .int .i64 c.pageSize, .int .i64 c.batch, .int .i64 c.queue, .int .i64 M.vocab, .int .i64 0, .map (some (wr.heap.size + 1)), .slice (some ⟨wr.heap.size, 0, none⟩) c.pages c.pages, .slice none 0 0, .int .i64 0, .int .i64 0, .bool false] 70)).drew) := (((Below.refl _ _).alloc (by simp) _).alloc (by simp) _).drew
      have hbn2 : Below (wr.heap.size + 1 + 1) ((wr.alloc (.cells (pagesFrom (fun _ => .slice none 0 0) 0 (List.replicate c.pages zeroPage)).toArray 106)).alloc (.map #[] 0)) ((((wr.alloc (.cells (pagesFrom (fun _ => .slice none 0 0) 0 (List.replicate c.pages zeroPage)).toArray 106)).alloc (.map #[] 0)).alloc (.cells #[.int .i64 M.kind, .int .i64 M.vocab, .int .i64 M.width, .int .i64 M.top, x4, x5, x6, x7, x8, x9, x10, .int .i64 c.pages, .int .i64 c.pageSize, .int .i64 c.batch, .int .i64 c.queue, .int .i64 M.vocab, .int .i64 0, .map (some (wr.heap.size + 1)), .slice (some ⟨wr.heap.size, 0, none⟩) c.pages c.pages, .slice none 0 0, .int .i64 0, .int .i64 0, .bool false] 70)).drew) := ((Below.refl _ _).alloc (by simp) _).drew
      have km : MapIs ((((wr.alloc (.cells (pagesFrom (fun _ => .slice none 0 0) 0 (List.replicate c.pages zeroPage)).toArray 106)).alloc (.map #[] 0)).alloc (.cells #[.int .i64 M.kind, .int .i64 M.vocab, .int .i64 M.width, .int .i64 M.top, x4, x5, x6, x7, x8, x9, x10, .int .i64 c.pages, .int .i64 c.pageSize, .int .i64 c.batch, .int .i64 c.queue, .int .i64 M.vocab, .int .i64 0, .map (some (wr.heap.size + 1)), .slice (some ⟨wr.heap.size, 0, none⟩) c.pages c.pages, .slice none 0 0, .int .i64 0, .int .i64 0, .bool false] 70)).drew) (wr.heap.size + 1) [] := by
        have k1 := MapIs.new (wr.alloc (.cells (pagesFrom (fun _ => .slice none 0 0) 0 (List.replicate c.pages zeroPage)).toArray 106))
        rw [hza] at k1
        exact k1.keep (hbn2.block _ (by omega))
      have kp : Blk ((((wr.alloc (.cells (pagesFrom (fun _ => .slice none 0 0) 0 (List.replicate c.pages zeroPage)).toArray 106)).alloc (.map #[] 0)).alloc (.cells #[.int .i64 M.kind, .int .i64 M.vocab, .int .i64 M.width, .int .i64 M.top, x4, x5, x6, x7, x8, x9, x10, .int .i64 c.pages, .int .i64 c.pageSize, .int .i64 c.batch, .int .i64 c.queue, .int .i64 M.vocab, .int .i64 0, .map (some (wr.heap.size + 1)), .slice (some ⟨wr.heap.size, 0, none⟩) c.pages c.pages, .slice none 0 0, .int .i64 0, .int .i64 0, .bool false] 70)).drew) wr.heap.size 106 (pagesFrom (fun _ => .slice none 0 0) 0 (List.replicate c.pages zeroPage)).toArray := (Blk.new wr 106 _).below hbn1 (by omega)
      have hzn : ((((wr.alloc (.cells (pagesFrom (fun _ => .slice none 0 0) 0 (List.replicate c.pages zeroPage)).toArray 106)).alloc (.map #[] 0)).alloc (.cells #[.int .i64 M.kind, .int .i64 M.vocab, .int .i64 M.width, .int .i64 M.top, x4, x5, x6, x7, x8, x9, x10, .int .i64 c.pages, .int .i64 c.pageSize, .int .i64 c.batch, .int .i64 c.queue, .int .i64 M.vocab, .int .i64 0, .map (some (wr.heap.size + 1)), .slice (some ⟨wr.heap.size, 0, none⟩) c.pages c.pages, .slice none 0 0, .int .i64 0, .int .i64 0, .bool false] 70)).drew).heap.size = wr.heap.size + 3 := by simp
      clear hza hz2 hbn1 hbn2
      generalize (((wr.alloc (.cells (pagesFrom (fun _ => .slice none 0 0) 0 (List.replicate c.pages zeroPage)).toArray 106)).alloc (.map #[] 0)).alloc (.cells #[.int .i64 M.kind, .int .i64 M.vocab, .int .i64 M.width, .int .i64 M.top, x4, x5, x6, x7, x8, x9, x10, .int .i64 c.pages, .int .i64 c.pageSize, .int .i64 c.batch, .int .i64 c.queue, .int .i64 M.vocab, .int .i64 0, .map (some (wr.heap.size + 1)), .slice (some ⟨wr.heap.size, 0, none⟩) c.pages c.pages, .slice none 0 0, .int .i64 0, .int .i64 0, .bool false] 70)).drew = W5 at *
      obtain ⟨sb, hsb⟩ : ∃ sb, sb = wr.heap.size + 1 + 1 := ⟨_, rfl⟩
      rw [← hsb] at ks ⊢
      obtain ⟨mb, hmb⟩ : ∃ mb, mb = wr.heap.size + 1 := ⟨_, rfl⟩
      obtain ⟨pb, hpb⟩ : ∃ pb, pb = wr.heap.size := ⟨_, rfl⟩
      rw [← hmb] at km
      rw [← hpb] at kp
      rw [← hmb, ← hpb] at ks
      have HMB : Hid (zr ≤ mb ∧ mb < zr + 2 ∧ zr ≤ pb ∧ pb < zr + 2 ∧ mb ≠ pb) := Lib.hid (by omega)
      clear hmb hpb
      have hsz : sb = zr + 2 := by omega
      have hzW5 : W5.heap.size = zr + 3 := by omega
      have HZR := Lib.hid hzr
      have HSZ := Lib.hid hsz
      have HZ5 := Lib.hid hzW5
      clear hsb hzn hzr hsz hzW5
      have hm5 : MSl W5 (fun g => W.heap.size ≤ g ∧ g < wr.heap.size) M x4 x5 x6 x7 x8 x9 x10 := (HM3.out.more fun g hg h => ⟨h, hg⟩).fresh hbn
      have kb5 := KB3.out.below hbn KB3.out.lt
      have kc5 := KC3.out.below hbn KC3.out.lt
      clear c0 c1 c2 c3 c4 c5 c6 c7 c8 c9 c10 e0 e1 e2 e3
      obtain ⟨c0, c1, c2, c3, c4, c5, c6, c7, c8, c9, c10⟩ := mcells kb5
      have e0 : W5.cell? ⟨b + 1, 0, none⟩ = some (.int .i64 c.pages) := kc5.cell 0
      have e1 : W5.cell? ⟨b + 1, 1, none⟩ = some (.int .i64 c.pageSize) := kc5.cell 1
      have e2 : W5.cell? ⟨b + 1, 2, none⟩ = some (.int .i64 c.batch) := kc5.cell 2
      have e3 : W5.cell? ⟨b + 1, 3, none⟩ = some (.int .i64 c.queue) := kc5.cell 3
      have HHD := Lib.hid (head_any W5 _ M x4 x5 x6 x7 x8 x9 x10 hm5 HM.out HK.out c HC.out)
      have HM5 := Lib.hid hm5
      have HBN := Lib.hid (HBEL.out.trans (hbn.mono HBEL.out.size))
      have KS := Lib.hid ks
      have KM := Lib.hid km
      have KP := Lib.hid kp
      clear hm5 hbn ks km kp kb5 kc5 hmm hmk
      go_wp2_with fail
      refine HHD.out.mono ?_
      rintro e w6 ⟨vl, rfl, hl, hb6⟩
      obtain ⟨Al, cl, rfl, -, -⟩ := hl.shape
      have ks6 := KS.out.below hb6 KS.out.lt
      have d19 : w6.cell? ⟨sb, 19, none⟩ = some (.slice none 0 0) := ks6.cell 19
      have d21 : w6.cell? ⟨sb, 21, none⟩ = some (.int .i64 0) := ks6.cell 21
      have f19 := ks6.frozen 19
      have f21 := ks6.frozen 21
      have HL := Lib.hid hl
      have KS6 := Lib.hid ks6
      have HB6 := Lib.hid hb6
      clear hl ks6 hb6 c0 c1 c2 c3 c4 c5 c6 c7 c8 c9 c10 e0 e1 e2 e3
      go_wp2_with fail
      go_ret2
      have kk : Keeps (· = sb) w6 ((w6.setCell ⟨sb, 19, none⟩ (.slice Al 28 cl)).setCell ⟨sb, 21, none⟩ (.int .i64 28)) := Keeps.setCell (p := ⟨sb, 21, none⟩) (Keeps.setCell (p := ⟨sb, 19, none⟩) (Keeps.refl (· = sb) w6) (fun _ => rfl) _) (fun _ => rfl) _
      obtain ⟨m1, m2, m3, m4, m5⟩ := HMB.out
      have hz6 := HB6.out.size
      have hwz' := HB2.out.size
      have hzr := HZR.out
      have hsz := HSZ.out
      have hzW5 := HZ5.out
      have hbb := HBE.out
      obtain ⟨own, P, hsa, hrep, hold⟩ := rep_init ((w6.setCell ⟨sb, 19, none⟩ (.slice Al 28 cl)).setCell ⟨sb, 21, none⟩ (.int .i64 28)) M c sb mb pb W.heap.size wr.heap.size W5.heap.size x4 x5 x6 x7 x8 x9 x10 _
        ((KS6.out.set_ 19 _).set_ 21 _) (KM.out.keep ((kk.block _ (by omega) (by omega)).trans (HB6.out.block _ (by omega)))) (kk.blk (KP.out.below HB6.out (by omega)) (by omega))
        (HL.out.keeps kk (by intro i hi; omega)) (headF_length M c) ((HM5.out.fresh HB6.out).keeps kk (by intro i hi; omega)) (by omega) (by omega) (by omega) (by omega) (by omega) (by omega) hwz (by have := kk.size; omega)
      refine ⟨own, P, by subst hsa; rfl, hrep, fun g hg => hold g (by omega), ?_⟩
      have h6 := HBN.out.trans (HB6.out.mono HBN.out.size)
      exact (h6.setCell (p := ⟨sb, 19, none⟩) (by show w.heap.size ≤ sb; omega) _).setCell (p := ⟨sb, 21, none⟩) (by show w.heap.size ≤ sb; omega) _
end Go.Proofs.YtedkfehdfmimoaaGreat

namespace Go.Proofs.YtedkfehdfmimoaaGreat
open Go.RowKit

theorem keeps11 (w : World) (g : Nat) (a0 a1 a2 a3 a4 a5 a6 a7 a8 a9 a10 : Value) : Keeps (· = g) w (((((((((((w.setCell ⟨g, 0, none⟩ a0).setCell ⟨g, 1, none⟩ a1).setCell ⟨g, 2, none⟩ a2).setCell ⟨g, 3, none⟩ a3).setCell ⟨g, 4, none⟩ a4).setCell ⟨g, 5, none⟩ a5).setCell ⟨g, 6, none⟩ a6).setCell ⟨g, 7, none⟩ a7).setCell ⟨g, 8, none⟩ a8).setCell ⟨g, 9, none⟩ a9).setCell ⟨g, 10, none⟩ a10) :=
  Keeps.setCell (p := ⟨g, 10, none⟩) (Keeps.setCell (p := ⟨g, 9, none⟩) (Keeps.setCell (p := ⟨g, 8, none⟩) (Keeps.setCell (p := ⟨g, 7, none⟩) (Keeps.setCell (p := ⟨g, 6, none⟩) (Keeps.setCell (p := ⟨g, 5, none⟩) (Keeps.setCell (p := ⟨g, 4, none⟩) (Keeps.setCell (p := ⟨g, 3, none⟩) (Keeps.setCell (p := ⟨g, 2, none⟩) (Keeps.setCell (p := ⟨g, 1, none⟩) (Keeps.setCell (p := ⟨g, 0, none⟩) (Keeps.refl (· = g) w) (fun _ => rfl) _) (fun _ => rfl) _) (fun _ => rfl) _) (fun _ => rfl) _) (fun _ => rfl) _) (fun _ => rfl) _) (fun _ => rfl) _) (fun _ => rfl) _) (fun _ => rfl) _) (fun _ => rfl) _) (fun _ => rfl) _
theorem blk11 (w : World) (g : Nat) (t : TypeId) (b0 b1 b2 b3 b4 b5 b6 b7 b8 b9 b10 a0 a1 a2 a3 a4 a5 a6 a7 a8 a9 a10 : Value) (h : Blk w g t #[b0, b1, b2, b3, b4, b5, b6, b7, b8, b9, b10]) :
    Blk (((((((((((w.setCell ⟨g, 0, none⟩ a0).setCell ⟨g, 1, none⟩ a1).setCell ⟨g, 2, none⟩ a2).setCell ⟨g, 3, none⟩ a3).setCell ⟨g, 4, none⟩ a4).setCell ⟨g, 5, none⟩ a5).setCell ⟨g, 6, none⟩ a6).setCell ⟨g, 7, none⟩ a7).setCell ⟨g, 8, none⟩ a8).setCell ⟨g, 9, none⟩ a9).setCell ⟨g, 10, none⟩ a10) g t #[a0, a1, a2, a3, a4, a5, a6, a7, a8, a9, a10] := by
  have h : Blk (w.setCell ⟨g, 0, none⟩ a0) g t #[a0, b1, b2, b3, b4, b5, b6, b7, b8, b9, b10] := h.set_ 0 a0
  have h : Blk ((w.setCell ⟨g, 0, none⟩ a0).setCell ⟨g, 1, none⟩ a1) g t #[a0, a1, b2, b3, b4, b5, b6, b7, b8, b9, b10] := h.set_ 1 a1
  have h : Blk (((w.setCell ⟨g, 0, none⟩ a0).setCell ⟨g, 1, none⟩ a1).setCell ⟨g, 2, none⟩ a2) g t #[a0, a1, a2, b3, b4, b5, b6, b7, b8, b9, b10] := h.set_ 2 a2
  have h : Blk ((((w.setCell ⟨g, 0, none⟩ a0).setCell ⟨g, 1, none⟩ a1).setCell ⟨g, 2, none⟩ a2).setCell ⟨g, 3, none⟩ a3) g t #[a0, a1, a2, a3, b4, b5, b6, b7, b8, b9, b10] := h.set_ 3 a3
  have h : Blk (((((w.setCell ⟨g, 0, none⟩ a0).setCell ⟨g, 1, none⟩ a1).setCell ⟨g, 2, none⟩ a2).setCell ⟨g, 3, none⟩ a3).setCell ⟨g, 4, none⟩ a4) g t #[a0, a1, a2, a3, a4, b5, b6, b7, b8, b9, b10] := h.set_ 4 a4
  have h : Blk ((((((w.setCell ⟨g, 0, none⟩ a0).setCell ⟨g, 1, none⟩ a1).setCell ⟨g, 2, none⟩ a2).setCell ⟨g, 3, none⟩ a3).setCell ⟨g, 4, none⟩ a4).setCell ⟨g, 5, none⟩ a5) g t #[a0, a1, a2, a3, a4, a5, b6, b7, b8, b9, b10] := h.set_ 5 a5
  have h : Blk (((((((w.setCell ⟨g, 0, none⟩ a0).setCell ⟨g, 1, none⟩ a1).setCell ⟨g, 2, none⟩ a2).setCell ⟨g, 3, none⟩ a3).setCell ⟨g, 4, none⟩ a4).setCell ⟨g, 5, none⟩ a5).setCell ⟨g, 6, none⟩ a6) g t #[a0, a1, a2, a3, a4, a5, a6, b7, b8, b9, b10] := h.set_ 6 a6
  have h : Blk ((((((((w.setCell ⟨g, 0, none⟩ a0).setCell ⟨g, 1, none⟩ a1).setCell ⟨g, 2, none⟩ a2).setCell ⟨g, 3, none⟩ a3).setCell ⟨g, 4, none⟩ a4).setCell ⟨g, 5, none⟩ a5).setCell ⟨g, 6, none⟩ a6).setCell ⟨g, 7, none⟩ a7) g t #[a0, a1, a2, a3, a4, a5, a6, a7, b8, b9, b10] := h.set_ 7 a7
  have h : Blk (((((((((w.setCell ⟨g, 0, none⟩ a0).setCell ⟨g, 1, none⟩ a1).setCell ⟨g, 2, none⟩ a2).setCell ⟨g, 3, none⟩ a3).setCell ⟨g, 4, none⟩ a4).setCell ⟨g, 5, none⟩ a5).setCell ⟨g, 6, none⟩ a6).setCell ⟨g, 7, none⟩ a7).setCell ⟨g, 8, none⟩ a8) g t #[a0, a1, a2, a3, a4, a5, a6, a7, a8, b9, b10] := h.set_ 8 a8
  have h : Blk ((((((((((w.setCell ⟨g, 0, none⟩ a0).setCell ⟨g, 1, none⟩ a1).setCell ⟨g, 2, none⟩ a2).setCell ⟨g, 3, none⟩ a3).setCell ⟨g, 4, none⟩ a4).setCell ⟨g, 5, none⟩ a5).setCell ⟨g, 6, none⟩ a6).setCell ⟨g, 7, none⟩ a7).setCell ⟨g, 8, none⟩ a8).setCell ⟨g, 9, none⟩ a9) g t #[a0, a1, a2, a3, a4, a5, a6, a7, a8, a9, b10] := h.set_ 9 a9
  have h : Blk (((((((((((w.setCell ⟨g, 0, none⟩ a0).setCell ⟨g, 1, none⟩ a1).setCell ⟨g, 2, none⟩ a2).setCell ⟨g, 3, none⟩ a3).setCell ⟨g, 4, none⟩ a4).setCell ⟨g, 5, none⟩ a5).setCell ⟨g, 6, none⟩ a6).setCell ⟨g, 7, none⟩ a7).setCell ⟨g, 8, none⟩ a8).setCell ⟨g, 9, none⟩ a9).setCell ⟨g, 10, none⟩ a10) g t #[a0, a1, a2, a3, a4, a5, a6, a7, a8, a9, a10] := h.set_ 10 a10
  exact h

set_option maxRecDepth 100000 in
set_option maxHeartbeats 2000000 in
theorem demo_aux (M : Model) (hmk : ∀ w : World, Calls Tryz.prog 25 #[.int .i64 1, .int .i64 1, .int .i64 8, .int .i64 4] w fun e w' =>
    ∃ v4 v5 v6 v7 v8 v9 v10, e = .returned (.tuple #[.agg #[.int .i64 1, .int .i64 8, .int .i64 4, .int .i64 8, v4, v5, v6, v7, v8, v9, v10], .int .i64 0]) ∧ MSl w' (fun g => w.heap.size ≤ g) M v4 v5 v6 v7 v8 v9 v10 ∧ Below w.heap.size w w') (w : World) : Calls Tryz.prog 5 #[] w fun e w' =>
    ∃ v4 v5 v6 v7 v8 v9 v10, e = .returned (.agg #[.int .i64 1, .int .i64 8, .int .i64 4, .int .i64 8, v4, v5, v6, v7, v8, v9, v10]) ∧ MSl w' (fun g => w.heap.size ≤ g) M v4 v5 v6 v7 v8 v9 v10 ∧ Below w.heap.size w w' := by
  go_enter Tryz.func5, Tryz.ntmps5
  go_wp2_with fail
  have k0 := Blk.new w 27 #[.int .i64 0, .int .i64 0, .int .i64 0, .int .i64 0, .slice none 0 0, .slice none 0 0, .slice none 0 0, .slice none 0 0, .slice none 0 0, .slice none 0 0, .slice none 0 0]
  have hb0 := (Below.refl w.heap.size w).alloc (Nat.le_refl _) (.cells #[.int .i64 0, .int .i64 0, .int .i64 0, .int .i64 0, .slice none 0 0, .slice none 0 0, .slice none 0 0, .slice none 0 0, .slice none 0 0, .slice none 0 0, .slice none 0 0] 27)
  have hz0 : (w.alloc (.cells #[.int .i64 0, .int .i64 0, .int .i64 0, .int .i64 0, .slice none 0 0, .slice none 0 0, .slice none 0 0, .slice none 0 0, .slice none 0 0, .slice none 0 0, .slice none 0 0] 27)).heap.size = w.heap.size + 1 := by simp
  have HMK := Lib.hid (hmk (w.alloc (.cells #[.int .i64 0, .int .i64 0, .int .i64 0, .int .i64 0, .slice none 0 0, .slice none 0 0, .slice none 0 0, .slice none 0 0, .slice none 0 0, .slice none 0 0, .slice none 0 0] 27)))
  clear hmk
  refine HMK.out.mono ?_
  rintro e w1 ⟨v4, v5, v6, v7, v8, v9, v10, rfl, hm, hb1⟩
  have k01 := k0.below hb1 (by omega)
  have hb01 := hb0.trans (hb1.mono (by omega))
  have hz1 : w.heap.size < w1.heap.size := by have := hb1.size; omega
  have hm1 : MSl w1 (fun g => w.heap.size < g ∧ g < w1.heap.size) M v4 v5 v6 v7 v8 v9 v10 := hm.more fun g hg h => ⟨by omega, hg⟩
  obtain ⟨b, hb⟩ : ∃ b, b = w.heap.size := ⟨_, rfl⟩
  rw [← hb] at k01 hz1 hm1 ⊢
  have kz := Blk.new w1 27 #[.int .i64 0, .int .i64 0, .int .i64 0, .int .i64 0, .slice none 0 0, .slice none 0 0, .slice none 0 0, .slice none 0 0, .slice none 0 0, .slice none 0 0, .slice none 0 0]
  have c0 : w1.cell? ⟨b, 0, none⟩ = some (.int .i64 0) := k01.cell 0
  have c1 : w1.cell? ⟨b, 1, none⟩ = some (.int .i64 0) := k01.cell 1
  have c2 : w1.cell? ⟨b, 2, none⟩ = some (.int .i64 0) := k01.cell 2
  have c3 : w1.cell? ⟨b, 3, none⟩ = some (.int .i64 0) := k01.cell 3
  have c4 : w1.cell? ⟨b, 4, none⟩ = some (.slice none 0 0) := k01.cell 4
  have c5 : w1.cell? ⟨b, 5, none⟩ = some (.slice none 0 0) := k01.cell 5
  have c6 : w1.cell? ⟨b, 6, none⟩ = some (.slice none 0 0) := k01.cell 6
  have c7 : w1.cell? ⟨b, 7, none⟩ = some (.slice none 0 0) := k01.cell 7
  have c8 : w1.cell? ⟨b, 8, none⟩ = some (.slice none 0 0) := k01.cell 8
  have c9 : w1.cell? ⟨b, 9, none⟩ = some (.slice none 0 0) := k01.cell 9
  have c10 : w1.cell? ⟨b, 10, none⟩ = some (.slice none 0 0) := k01.cell 10
  have fz := k01.frozen
  have HB := Lib.hid hb
  obtain ⟨A4, e4, rfl⟩ := hm1.cuts.len
  obtain ⟨A5, e5, rfl⟩ := hm1.embed.len
  obtain ⟨A6, e6, rfl⟩ := hm1.place.len
  obtain ⟨A7, e7, rfl⟩ := hm1.mix.len
  obtain ⟨A8, e8, rfl⟩ := hm1.out.len
  obtain ⟨A9, e9, rfl⟩ := hm1.soft.len
  obtain ⟨A10, e10, rfl⟩ := hm1.odds.len
  have HM := Lib.hid hm1
  have K01 := Lib.hid k01
  have HB01 := Lib.hid hb01
  clear k0 hb0 hz0 hm hb1 hm1 k01 hb01 hb
  have f0 := fz 0
  have f1 := fz 1
  have f2 := fz 2
  have f3 := fz 3
  have f4 := fz 4
  have f5 := fz 5
  have f6 := fz 6
  have f7 := fz 7
  have f8 := fz 8
  have f9 := fz 9
  have f10 := fz 10
  clear fz
  go_upto_region 2 with (fail)
  have kq := Blk.new w1 27 #[.int .i64 1, .int .i64 8, .int .i64 4, .int .i64 8, .slice A4 M.cuts.length e4, .slice A5 M.embed.length e5, .slice A6 M.place.length e6, .slice A7 M.mix.length e7, .slice A8 M.out.length e8, .slice A9 M.soft.length e9, .slice A10 M.odds.length e10]
  have k02 := K01.out.alloc (.cells #[.int .i64 1, .int .i64 8, .int .i64 4, .int .i64 8, .slice A4 M.cuts.length e4, .slice A5 M.embed.length e5, .slice A6 M.place.length e6, .slice A7 M.mix.length e7, .slice A8 M.out.length e8, .slice A9 M.soft.length e9, .slice A10 M.odds.length e10] 27)
  have hm2 := HM.out.alloc (.cells #[.int .i64 1, .int .i64 8, .int .i64 4, .int .i64 8, .slice A4 M.cuts.length e4, .slice A5 M.embed.length e5, .slice A6 M.place.length e6, .slice A7 M.mix.length e7, .slice A8 M.out.length e8, .slice A9 M.soft.length e9, .slice A10 M.odds.length e10] 27)
  have hb2 := HB01.out.alloc (by have := HB.out; omega) (.cells #[.int .i64 1, .int .i64 8, .int .i64 4, .int .i64 8, .slice A4 M.cuts.length e4, .slice A5 M.embed.length e5, .slice A6 M.place.length e6, .slice A7 M.mix.length e7, .slice A8 M.out.length e8, .slice A9 M.soft.length e9, .slice A10 M.odds.length e10] 27)
  generalize w1.alloc (.cells #[.int .i64 1, .int .i64 8, .int .i64 4, .int .i64 8, .slice A4 M.cuts.length e4, .slice A5 M.embed.length e5, .slice A6 M.place.length e6, .slice A7 M.mix.length e7, .slice A8 M.out.length e8, .slice A9 M.soft.length e9, .slice A10 M.odds.length e10] 27) = W2 at *
  clear c0 c1 c2 c3 c4 c5 c6 c7 c8 c9 c10 f0 f1 f2 f3 f4 f5 f6 f7 f8 f9 f10 kz
  obtain ⟨q, hq⟩ : ∃ q, q = w1.heap.size := ⟨_, rfl⟩
  rw [← hq] at kq hz1 hm2 ⊢
  clear hq
  have hbl := k02.lt
  have d0 : W2.cell? ⟨q, 0, none⟩ = some (.int .i64 1) := kq.cell 0
  have d1 : W2.cell? ⟨q, 1, none⟩ = some (.int .i64 8) := kq.cell 1
  have d2 : W2.cell? ⟨q, 2, none⟩ = some (.int .i64 4) := kq.cell 2
  have d3 : W2.cell? ⟨q, 3, none⟩ = some (.int .i64 8) := kq.cell 3
  have d4 : W2.cell? ⟨q, 4, none⟩ = some (.slice A4 M.cuts.length e4) := kq.cell 4
  have d5 : W2.cell? ⟨q, 5, none⟩ = some (.slice A5 M.embed.length e5) := kq.cell 5
  have d6 : W2.cell? ⟨q, 6, none⟩ = some (.slice A6 M.place.length e6) := kq.cell 6
  have d7 : W2.cell? ⟨q, 7, none⟩ = some (.slice A7 M.mix.length e7) := kq.cell 7
  have d8 : W2.cell? ⟨q, 8, none⟩ = some (.slice A8 M.out.length e8) := kq.cell 8
  have d9 : W2.cell? ⟨q, 9, none⟩ = some (.slice A9 M.soft.length e9) := kq.cell 9
  have d10 : W2.cell? ⟨q, 10, none⟩ = some (.slice A10 M.odds.length e10) := kq.cell 10
  have c0 : W2.cell? ⟨b, 0, none⟩ = some (.int .i64 0) := k02.cell 0
  have c1 : W2.cell? ⟨b, 1, none⟩ = some (.int .i64 0) := k02.cell 1
  have c2 : W2.cell? ⟨b, 2, none⟩ = some (.int .i64 0) := k02.cell 2
  have c3 : W2.cell? ⟨b, 3, none⟩ = some (.int .i64 0) := k02.cell 3
  have c4 : W2.cell? ⟨b, 4, none⟩ = some (.slice none 0 0) := k02.cell 4
  have c5 : W2.cell? ⟨b, 5, none⟩ = some (.slice none 0 0) := k02.cell 5
  have c6 : W2.cell? ⟨b, 6, none⟩ = some (.slice none 0 0) := k02.cell 6
  have c7 : W2.cell? ⟨b, 7, none⟩ = some (.slice none 0 0) := k02.cell 7
  have c8 : W2.cell? ⟨b, 8, none⟩ = some (.slice none 0 0) := k02.cell 8
  have c9 : W2.cell? ⟨b, 9, none⟩ = some (.slice none 0 0) := k02.cell 9
  have c10 : W2.cell? ⟨b, 10, none⟩ = some (.slice none 0 0) := k02.cell 10
  have f0 := k02.frozen 0
  have f1 := k02.frozen 1
  have f2 := k02.frozen 2
  have f3 := k02.frozen 3
  have f4 := k02.frozen 4
  have f5 := k02.frozen 5
  have f6 := k02.frozen 6
  have f7 := k02.frozen 7
  have f8 := k02.frozen 8
  have f9 := k02.frozen 9
  have f10 := k02.frozen 10
  have HM2 := Lib.hid hm2
  have HB2 := Lib.hid hb2
  have K02 := Lib.hid k02
  clear kq k02 hm2 hb2
  go_wp2_with fail
  have bf := blk11 W2 b 27 _ _ _ _ _ _ _ _ _ _ _ (.int .i64 1) (.int .i64 8) (.int .i64 4) (.int .i64 8) (.slice A4 M.cuts.length e4) (.slice A5 M.embed.length e5) (.slice A6 M.place.length e6) (.slice A7 M.mix.length e7) (.slice A8 M.out.length e8) (.slice A9 M.soft.length e9) (.slice A10 M.odds.length e10) K02.out
  have kf := keeps11 W2 b (.int .i64 1) (.int .i64 8) (.int .i64 4) (.int .i64 8) (.slice A4 M.cuts.length e4) (.slice A5 M.embed.length e5) (.slice A6 M.place.length e6) (.slice A7 M.mix.length e7) (.slice A8 M.out.length e8) (.slice A9 M.soft.length e9) (.slice A10 M.odds.length e10)
  (try simp only [Exit.inBlock, Exit.then])
  refine bodyPost_ret (v := .agg #[.int .i64 1, .int .i64 8, .int .i64 4, .int .i64 8, .slice A4 M.cuts.length e4, .slice A5 M.embed.length e5, .slice A6 M.place.length e6, .slice A7 M.mix.length e7, .slice A8 M.out.length e8, .slice A9 M.soft.length e9, .slice A10 M.odds.length e10]) ?_ ?_ ?_
  · exact results_cell_row (p := 0) (ty := 27) (fn := Tryz.f5) rfl _ _ b 27 #[.int .i64 1, .int .i64 8, .int .i64 4, .int .i64 8, .slice A4 M.cuts.length e4, .slice A5 M.embed.length e5, .slice A6 M.place.length e6, .slice A7 M.mix.length e7, .slice A8 M.out.length e8, .slice A9 M.soft.length e9, .slice A10 M.odds.length e10] (0, 0) _ rfl bf Tryz.underlying27 rfl rfl
  · rfl
  refine ⟨_, _, _, _, _, _, _, rfl, (HM2.out.keeps kf (by intro i hi; omega)).more (fun g _ hg => by have := HB.out; omega), ?_⟩
  have hbb := HB.out
  exact HB2.out.trans ⟨kf.os, kf.tape, kf.output, by have := kf.size; have := HB2.out.size; omega, fun g hg => kf.block g (by have := HB2.out.size; omega) (by omega)⟩
theorem demo_any (w : World) : Calls Tryz.prog 5 #[] w fun e w' =>
    ∃ v4 v5 v6 v7 v8 v9 v10, e = .returned (.agg #[.int .i64 1, .int .i64 8, .int .i64 4, .int .i64 8, v4, v5, v6, v7, v8, v9, v10]) ∧ MSl w' (fun g => w.heap.size ≤ g) demoM v4 v5 v6 v7 v8 v9 v10 ∧ Below w.heap.size w w' :=
  demo_aux demoM make_demo w
end Go.Proofs.YtedkfehdfmimoaaGreat

namespace Go.Proofs.YtedkfehdfmimoaaGreat
open Go.RowKit

theorem init_ok (M : Model) (hM : M.Ok) (hk : M.kind = 1) (c : CConf) (hc : c.Ok) : (Srv.init M c).Ok where
  M := hM
  kind := hk
  c := hc
  npages := by simp [Srv.init]
  nreqs := by simp [Srv.init]
  distinct := by intro i j hi; simp [Srv.init] at hi
  reqs := by intro i hi; simp [Srv.init] at hi
  ptok := by
    intro k hk
    have hk' : k < c.pages := by simpa [Srv.init] using hk
    have e : (Srv.init M c).pg k = zeroPage := by
      simp [Srv.init, Srv.pg, List.getD_eq_getElem?_getD, List.getElem?_replicate, hk']
    rw [e]
    exact Nat.zero_le _
  records := by simp [Srv.init]
  now := by simp [Srv.init]
  log := by
    have e : (Srv.init M c).log.length = 28 := headF_length M c
    rw [e]
    omega
theorem open_nil (s : Srv) (h : s.reqs = []) : s.open_ = [] := by
  unfold Srv.open_
  rw [h]
  rfl
theorem tick2_nil (s : Srv) (h : s.reqs = []) : s.tick2 = { s with now := s.now + 1 } := by
  have e1 : s.tick1 = { s with now := s.now + 1 } := by
    unfold Srv.tick1 Srv.late
    rw [open_nil { s with now := s.now + 1 } h]
    rfl
  unfold Srv.tick2
  rw [e1, open_nil { s with now := s.now + 1 } h]
  rfl
theorem tick_nil (s : Srv) (h : s.reqs = []) : s.tick = ({ s with now := s.now + 1 } : Srv).rec_ [4] := by
  unfold Srv.tick
  rw [tick2_nil s h]
  unfold Srv.settle
  simp [Srv.rec_, h]
theorem init_tick_ok (M : Model) (hM : M.Ok) (hk : M.kind = 1) (c : CConf) (hc : c.Ok) : (Srv.init M c).tick.Ok := by
  rw [tick_nil _ rfl]
  have h := init_ok M hM hk c hc
  exact {
    M := hM
    kind := hk
    c := hc
    npages := h.npages
    nreqs := h.nreqs
    distinct := by intro i j hi; simp [Srv.init, Srv.rec_] at hi
    reqs := by intro i hi; simp [Srv.init, Srv.rec_] at hi
    ptok := h.ptok
    records := by simp [Srv.init, Srv.rec_]
    now := by simp [Srv.init, Srv.rec_]
    log := by
      have e : (headF M c.ns).length = 28 := headF_length M c
      simp [Srv.init, Srv.rec_, recF, sealF_length, lowF_length, e]
      have : (bodyF 4 []).length = 1 := by rw [bodyF_length]; rfl
      omega }
set_option maxRecDepth 100000 in
set_option maxHeartbeats 2000000 in
theorem served_any (w : World) : Calls Tryz.prog 8 #[] w fun e w' => e = .returned (.bool true) ∧ Below w.heap.size w w' := by
  have hc : CConf.Ok ⟨1, 4, 1, 1⟩ := ⟨by decide, by decide, by decide, by decide⟩
  have HN : Hid (∀ (w : World) (T : Nat → Prop) (v4 v5 v6 v7 v8 v9 v10 : Value), MSl w T demoM v4 v5 v6 v7 v8 v9 v10 → Calls Tryz.prog 7 #[.agg #[.int .i64 1, .int .i64 8, .int .i64 4, .int .i64 8, v4, v5, v6, v7, v8, v9, v10], .agg #[.int .i64 1, .int .i64 4, .int .i64 1, .int .i64 1]] w fun e w' => ∃ own P, e = .returned (.tuple #[.pointer (some ⟨P.sa, 0, none⟩), .int .i64 0]) ∧ Rep w' own P (Srv.init demoM ⟨1, 4, 1, 1⟩) ∧ (∀ g, g < w.heap.size → own g = .other) ∧ Below w.heap.size w w') :=
    Lib.hid (fun w T v4 v5 v6 v7 v8 v9 v10 h => new_any w T demoM v4 v5 v6 v7 v8 v9 v10 h demo_ok rfl ⟨1, 4, 1, 1⟩ hc)
  have HO := Lib.hid (init_ok demoM demo_ok rfl _ hc)
  have HT := Lib.hid (init_tick_ok demoM demo_ok rfl _ hc)
  obtain ⟨s0, hs0⟩ : ∃ s0, s0 = Srv.init demoM ⟨1, 4, 1, 1⟩ := ⟨_, rfl⟩
  have hq : s0.reqs = [] := by rw [hs0]; rfl
  have hn : s0.now = 0 := by rw [hs0]; rfl
  have hr : s0.records = 0 := by rw [hs0]; rfl
  have hn1 : s0.tick.now = 1 := by rw [tick_nil _ hq]; show s0.now + 1 = 1; rw [hn]
  have hr1 : s0.tick.records = 1 := by rw [tick_nil _ hq]; show s0.records + 1 = 1; rw [hr]
  have hq1 : s0.tick.reqs = [] := by rw [tick_nil _ hq]; exact hq
  have hcn : (s0.tick.cancel 2).2 = 13 := by unfold Srv.cancel Srv.find; rw [hq1]; rfl
  rw [← hs0] at HN HO HT
  have HQ := Lib.hid hq
  have HQ1 := Lib.hid hq1
  have HNN := Lib.hid hn
  have HR := Lib.hid hr
  have HN1 := Lib.hid hn1
  have HR1 := Lib.hid hr1
  have HCN := Lib.hid hcn
  clear hc hs0 hq hn hr hn1 hr1 hq1 hcn
  go_enter Tryz.func8, Tryz.ntmps8
  go_wp2_with fail
  refine (demo_any w).mono ?_
  rintro e w1 ⟨v4, v5, v6, v7, v8, v9, v10, rfl, hm, hb1⟩
  have HM := Lib.hid hm
  have HB1 := Lib.hid hb1
  clear hm hb1
  go_wp2_with fail
  refine (HN.out w1 _ v4 v5 v6 v7 v8 v9 v10 HM.out).mono ?_
  rintro e w2 ⟨own, P, rfl, hrep, hoth, hb2⟩
  have HTK := Lib.hid (tick_any w2 own P s0 hrep HO.out (by rw [HNN.out]; omega) (by rw [HR.out]; omega) s0.reqs.length (Nat.le_refl _))
  have HB2 := Lib.hid (HB1.out.trans (hb2.mono HB1.out.size))
  have HOT := Lib.hid hoth
  have hlt := hrep.server.lt
  have hz2 := hb2.size
  have HREP := Lib.hid hrep
  clear hrep hb2 hoth
  go_wp2_with fail
  refine HTK.out.mono ?_
  rintro e w3 ⟨rfl, own3, P3, hrep3, st3⟩
  have HNW := Lib.hid (now_any w3 own3 P3 _ hrep3)
  have HCA := Lib.hid (cancel_any w3 own3 P3 _ hrep3 HT.out (by rw [HR1.out]; omega) 2 (by omega) _ (Nat.le_refl _))
  have hsa : P3.sa = P.sa := st3.sa
  rw [hsa] at HNW HCA
  rw [HN1.out] at HNW
  rw [HCN.out] at HCA
  have HST := Lib.hid st3
  clear hsa hrep3 st3
  go_wp2_with fail
  refine HNW.out.mono ?_
  rintro e w' ⟨rfl, rfl⟩
  go_wp2_with fail
  refine HCA.out.mono ?_
  rintro e w4 ⟨rfl, own4, P4, hrep4, st4⟩
  go_wp2_with fail
  go_ret
  have k : Keeps (fun g => own g ≠ .other) w2 w4 := (HST.out.trans st4 (by rw [HQ.out, HQ1.out]; exact Nat.le_refl _)).keeps
  have hb := HB2.out
  refine ⟨rfl, k.os.trans hb.os, k.tape.trans hb.tape, k.output.trans hb.output, Nat.le_trans hb.size k.size, fun g hg => (k.block g (Nat.lt_of_lt_of_le hg hb.size) (fun hn => hn (HOT.out g (Nat.lt_of_lt_of_le hg HB1.out.size)))).trans (hb.block g hg)⟩
end Go.Proofs.YtedkfehdfmimoaaGreat

namespace Go.Proofs.YtedkfehdfmimoaaGreat
open Go.RowKit

def Srv.waiting (s : Srv) : List Int := s.open_.map fun i => (s.req i).id
set_option maxRecDepth 100000 in
set_option maxHeartbeats 1000000 in
theorem waiting_any (w : World) (own : Nat → Slot) (P : Ptrs) (s : Srv) (h : Rep w own P s) (hd : s.Distinct) (hn : s.reqs.length ≤ 12) :
    Calls Tryz.prog 15 #[.pointer (some ⟨P.sa, 0, none⟩)] w (RetFresh w 3 1 s.waiting.length (ints s.waiting)) := by
  obtain ⟨i0, hi, hz0, hz1, hz2⟩ := info_parts int_info
  have HOP := Lib.hid (open_any w own P s h hd hn)
  have hlen := s.open_length
  have hle : s.open_.length ≤ 12 := Nat.le_trans hlen hn
  have HLT := Lib.hid s.open_lt
  have HW := Lib.hid (show s.waiting = s.open_.map (fun i => (s.req i).id) from rfl)
  have H0 := Lib.hid h
  clear h hd hn hlen
  go_enter Tryz.func15, Tryz.ntmps15
  go_wp2_with fail
  refine HOP.out.mono ?_
  rintro e w1 ⟨v, rfl, ho, hb1⟩
  obtain ⟨n, hnx⟩ : ∃ n, n = s.open_.length := ⟨_, rfl⟩
  rw [← hnx] at ho hle
  obtain ⟨A, c, rfl, -, -⟩ := ho.shape
  have hrd := ho.reads
  have H1 := Lib.hid (H0.out.fresh hb1)
  have HRD := Lib.hid hrd
  have HB1 := Lib.hid hb1
  have hz1w := hb1.size
  have HN := Lib.hid hnx
  clear ho hrd hb1 hnx
  go_wp2_with fail
  go_loopw [3, 5, 9] (fun v _ i wr => ∃ k : Nat, k ≤ n ∧ i = .int .i64 k ∧ Own wr (fun g => w1.heap.size ≤ g) 3 1 v k (ints (s.waiting.take k)) ∧ Below w1.heap.size w1 wr) (fun _ _ i _ => n - (intOf i).toNat)
  case atStart => exact ⟨0, by omega, rfl, Own.nil_ _ _ _ _, Below.refl _ _⟩
  obtain ⟨k, hk, rfl, ho, hb⟩ := hrel
  have hwz := hb.size
  by_cases hlt : k < n
  · have hko : k < s.open_.length := by rw [← HN.out]; exact hlt
    obtain ⟨ad, u, rfl, -, hT, hu, hc⟩ := HRD.out.at_ hlt
    obtain ⟨j, hj⟩ : ∃ j, j = s.open_[k] := ⟨_, rfl⟩
    have hju : u = .pointer (some ⟨P.rb j, 0, none⟩) := by
      have e : (ptrs P.rb s.open_)[k]? = some (.pointer (some ⟨P.rb s.open_[k], 0, none⟩)) := by
        unfold ptrs
        rw [List.getElem?_map, List.getElem?_eq_getElem hko]
        rfl
      rw [e] at hu
      injection hu with hu
      rw [← hu, hj]
    subst hju
    have hjl : j < s.reqs.length := by rw [hj]; exact HLT.out _ (List.getElem_mem hko)
    have hr := H1.out.fresh hb
    have c0 : wr.cell? ⟨P.rb j, 0, none⟩ = some (.int .i64 (s.req j).id) := hr.rcell j _ (s.req_get j hjl) 0
    have hrd2 := HRD.out.fresh hb
    obtain ⟨ad', u', e1, -, -, hu2, hc2⟩ := hrd2.at_ hlt
    injection e1 with e1
    subst e1
    rw [hu] at hu2
    injection hu2 with hu2
    subst hu2
    have hsu : s.waiting.take (k + 1) = s.waiting.take k ++ [(s.req j).id] := by
      rw [HW.out, List.take_succ_eq_append_getElem (by rw [List.length_map]; exact hko), List.getElem_map, hj]
    have HSU := Lib.hid hsu
    have HO := Lib.hid ho
    have HB := Lib.hid hb
    generalize (s.req j).id = x at *
    have hk12 : k ≤ 12 := by omega
    clear hu hT hc hj hjl hr hrd2 hsu ho hb hko
    go_wp2_with (first | (at_builtin; go_must (refine wpList_append_any _ rfl _ _ 22 rfl 3 i0 _ 1 8 Tryz.underlying22 hi hz0 hz1 hz2 rfl (by omega) u3 _ _ rfl (HO.out.alloc _) _ 1 1 _ rfl (own_lit _ (fun _ => True) _ [_] 1 (by decide) rfl trivial).reads (by intro u hu; simp at hu; subst hu; rfl) (by unfold maxLen; omega) (by omega) ?_); intro v' w3 happ))
    go_roundw
    case rel =>
      have hg3 : wr.grownBy w3 u3.ownBlock := grown_after (wr := wr) (W1 := wr) (n := 0) (Below.refl _ _) happ.2.1
      have hrow : ∀ g, u3.ownBlock = some g → w1.heap.size ≤ g := fun g hg => HO.out.2 g hg
      refine ⟨k + 1, by omega, by go_num, ?_, HB.out.grown hg3 HB.out.size (fun g hg => hrow g hg)⟩
      rw [HSU.out]
      have ha := happ.1.more (T' := fun g => w1.heap.size ≤ g) fun g _ hg => by
        rcases hg with hg | hg
        · exact hg
        · simp at hg; omega
      simp only [ints, List.map_append, List.map_cons, List.map_nil]
      exact ha
    case measure => simp [intOf]; omega
  · obtain rfl : k = n := by omega
    have HO := Lib.hid ho
    have HB := Lib.hid hb
    clear ho hb
    go_wp2_with fail
    go_ret
    have hl : s.waiting.length = k := by rw [HW.out, List.length_map, HN.out]
    refine ⟨_, rfl, ?_, HB1.out.trans (HB.out.mono hz1w)⟩
    have ho := HO.out
    rw [List.take_of_length_le (by omega)] at ho
    rw [hl]
    exact ho.more fun g _ h => by omega
end Go.Proofs.YtedkfehdfmimoaaGreat

namespace Go.Proofs.YtedkfehdfmimoaaGreat
open Go.RowKit

theorem bclone_any (w : World) (T : Nat → Prop) (ad : Addr) (n c : Nat) (xs : List Value) (hr : Reads w T 1 (some ad) n xs) (h1 : ∀ u ∈ xs, u.oneCell' = true) (hn : n ≤ 1000000000000) :
    Calls Tryz.prog 53 #[.slice (some ad) n c] w (RetFresh w 5 1 n xs) := by
  obtain ⟨i0, hi, hz0, hz1, hz2⟩ := info_parts u8_info
  have he := fun W : World => Lib.run_eql_slice_nil (P := Tryz.prog) W 56 5 (some ad) n c 0 0 Tryz.underlying56
  go_enter Tryz.func53, Tryz.ntmps53
  go_wp2_with (at_builtin; refine wpList_append_any _ rfl _ _ 56 rfl 5 i0 _ 1 1 Tryz.underlying56 hi hz0 hz1 hz2 rfl (by omega) (.slice (some ⟨w.heap.size, 0, none⟩) 0 0) 0 [] rfl (own_empty w (fun g => w.heap.size ≤ g) _ _ (Nat.le_refl _)) _ n c xs rfl (hr.alloc _) h1 (by unfold maxLen; omega) (by omega) ?_; intro v1 w1 happ)
  go_ret
  refine ⟨_, rfl, ?_, ?_⟩
  · have h := happ.1
    simp only [Nat.zero_add, List.nil_append] at h
    exact h.more fun g _ hg => by rcases hg with hg | hg; exact hg; simp at hg; omega
  · refine below_of_app (by go_grown) happ (by simp) (fun g hg => ?_)
    simp [Value.ownBlock] at hg
    omega
set_option maxHeartbeats 400000 in
theorem log_any (w : World) (own : Nat → Slot) (P : Ptrs) (s : Srv) (h : Rep w own P s) (h0 : 0 < s.log.length) (hn : s.log.length ≤ 100000000) :
    Calls Tryz.prog 23 #[.pointer (some ⟨P.sa, 0, none⟩)] w (RetFresh w 5 1 s.log.length (bytes s.log)) := by
  have c19 : w.cell? ⟨P.sa, 19, none⟩ = some P.vlog := h.scell 19
  have ho := h.log
  obtain ⟨g, cap, hv, -⟩ := ho.form h0
  rw [hv] at c19 ho
  have HC := Lib.hid (bclone_any w _ _ _ cap _ ho.reads (bytes_one _) (by omega))
  obtain ⟨n, hnn⟩ : ∃ n, n = s.log.length := ⟨_, rfl⟩
  rw [← hnn] at c19 HC ⊢
  clear h ho hv hnn
  go_enter Tryz.func23, Tryz.ntmps23
  go_wp2_with fail
  refine HC.out.mono ?_
  rintro e w1 ⟨v, rfl, hf⟩
  go_wp2_with fail
  go_ret
  exact ⟨v, rfl, hf⟩
end Go.Proofs.YtedkfehdfmimoaaGreat

namespace Go.Proofs.YtedkfehdfmimoaaGreat
open Go.RowKit

/-- 'weftmake.Below' as a function. -/
def belowF (x n : Int) : Int := if n < 1 then 0 else if x.tmod n < 0 then x.tmod n + n else x.tmod n
theorem belowF_range (x n : Int) : 0 ≤ belowF x n ∧ (1 ≤ n → belowF x n < n) ∧ (n < 1 → belowF x n = 0) := by
  unfold belowF
  by_cases h : n < 1
  · rw [if_pos h]; exact ⟨Int.le_refl 0, fun h1 => by omega, fun _ => rfl⟩
  · rw [if_neg h]
    have h1 := Int.tmod_lt_of_pos x (show 0 < n by omega)
    have h2 : -n < x.tmod n := by
      have h3 := Int.tmod_lt_of_pos (-x) (show 0 < n by omega)
      rw [Int.neg_tmod] at h3
      omega
    split <;> exact ⟨by omega, fun _ => by omega, fun h4 => by omega⟩

set_option maxHeartbeats 400000 in
theorem below_any (x n : Int) (w : World) (hn : -9223372036854775808 ≤ n ∧ n ≤ 9223372036854775807) :
    Calls Tryz.prog 47 #[.int .i64 x, .int .i64 n] w fun e w' => e = .returned (.int .i64 (belowF x n)) ∧ w = w' := by
  go_enter Tryz.func47, Tryz.ntmps47
  go_wp2
  · go_ret
    exact ⟨by unfold belowF; rw [if_pos (by assumption)]; rfl, rfl⟩
  · go_ret
    have h1 : 1 ≤ n := by assumption
    have h2 : x.tmod n < 0 := by assumption
    refine ⟨?_, rfl⟩
    unfold belowF
    rw [if_neg (by omega), if_pos h2]
    have h3 := Int.tmod_lt_of_pos (-x) (show 0 < n by omega)
    rw [Int.neg_tmod] at h3
    show Ending.returned (.int .i64 (wrap64 _)) = _
    rw [IntWalk.wrap64_in _ ⟨by omega, by omega⟩]
  · go_ret
    have h1 : 1 ≤ n := by assumption
    have h2 : 0 ≤ x.tmod n := by assumption
    exact ⟨by unfold belowF; rw [if_neg (by omega), if_neg (by omega)]; rfl, rfl⟩

/-- The stream at block p: its list reads as l, its place is a. -/
structure Str (w : World) (p : Nat) (A : Option Addr) (n c : Nat) (l : List Int) (a : Int) : Prop where
  blk : Blk w p 25 #[.slice A n c, .int .i64 a]
  reads : Reads w (· ≠ p) 1 A n (ints l)
  wf : ∀ x ∈ l, -9223372036854775808 ≤ x ∧ x ≤ 9223372036854775807
  len : n ≤ 9223372036854775807
  at0 : 0 ≤ a

section
variable {w w' : World} {p : Nat} {A : Option Addr} {n c : Nat} {l : List Int} {a : Int}
theorem Str.keeps {S : Nat → Prop} (h : Str w p A n c l a) (hk : Keeps S w w') (hp : ¬ S p) (hs : ∀ ad, A = some ad → ¬ S ad.block) : Str w' p A n c l a := by
  refine ⟨hk.blk h.blk hp, ?_, h.wf, h.len, h.at0⟩
  refine ⟨h.reads.1, fun hn => ?_⟩
  obtain ⟨ad, e, hb, ht, hc⟩ := h.reads.2 hn
  exact ⟨ad, e, Nat.lt_of_lt_of_le hb hk.size, ht, fun j u hu => (hk.cell (by rw [block_of_add]; exact hb) (by rw [block_of_add]; exact hs ad e)).trans (hc j u hu)⟩
theorem Str.fresh (h : Str w p A n c l a) (hk : Below w.heap.size w w') : Str w' p A n c l a :=
  ⟨(hk.block p h.blk.lt).trans h.blk, h.reads.fresh hk, h.wf, h.len, h.at0⟩
theorem Str.set (h : Str w p A n c l a) (a' : Int) (h0 : 0 ≤ a') : Str (w.setCell ⟨p, 1, none⟩ (.int .i64 a')) p A n c l a' :=
  ⟨h.blk.set_ 1 _, h.reads.setCell (fun h => h rfl) _, h.wf, h.len, h0⟩
theorem Str.drew (h : Str w p A n c l a) : Str w.drew p A n c l a := ⟨h.blk.drew, h.reads.drew, h.wf, h.len, h.at0⟩
theorem Str.drewN (h : Str w p A n c l a) (k : Nat) : Str (w.drewN k) p A n c l a := ⟨h.blk.drewN k, h.reads.drewN k, h.wf, h.len, h.at0⟩
theorem Str.alloc (h : Str w p A n c l a) (o : Obj) : Str (w.alloc o) p A n c l a := ⟨h.blk.alloc o, h.reads.alloc o, h.wf, h.len, h.at0⟩
theorem Str.setFar (h : Str w p A n c l a) {q : Addr} (hq : w.heap.size ≤ q.block) (u : Value) : Str (w.setCell q u) p A n c l a := by
  have := h.blk.lt
  refine ⟨h.blk.far (by omega) u, ?_, h.wf, h.len, h.at0⟩
  exact h.reads.keep (by simp [World.setCell]) fun r hr _ => World.cell?_setCell_other w q r u (fun e => by subst e; omega)
end

/-- What a method of the stream leaves: some number with a property, the stream moved on by at most m places, all else kept. -/
def StrPost (w : World) (p : Nat) (A : Option Addr) (n c : Nat) (l : List Int) (a m : Int) (R : Int → Prop) (e : Ending) (w' : World) : Prop :=
  ∃ v a', e = .returned (.int .i64 v) ∧ R v ∧ a ≤ a' ∧ a' ≤ a + m ∧ Str w' p A n c l a' ∧ Keeps (· = p) w w'

set_option maxHeartbeats 400000 in
theorem next_any (w : World) (p : Nat) (A : Option Addr) (n c : Nat) (l : List Int) (a m : Int) (h : Str w p A n c l a) (ha : a ≤ 1000000000) (hm : -9223372036854775808 ≤ m ∧ m ≤ 9223372036854775807) :
    Calls Tryz.prog 20 #[.pointer (some ⟨p, 0, none⟩), .int .i64 m] w (StrPost w p A n c l a 1 fun v => 0 ≤ v ∧ (1 ≤ m → v < m) ∧ (m < 1 → v = 0)) := by
  have c0 := h.blk.cell 0
  have c1 := h.blk.cell 1
  have f1 := h.blk.frozen 1
  have a0 := h.at0
  have hl := h.len
  by_cases hn : n = 0
  · subst hn
    go_enter Tryz.func20, Tryz.ntmps20
    go_wp2_with (go_at_call 47; refine (below_any _ _ _ hm).mono ?_; rintro e w' ⟨rfl, rfl⟩)
    go_ret
    exact ⟨_, a + 1, rfl, belowF_range _ m, by omega, by omega, h.set _ (by omega), Keeps.setCell (Keeps.refl (· = p) w) (fun _ => rfl) _⟩
  · have e1 : a % n < n := Int.emod_lt_of_pos a (show (0 : Int) < n by omega)
    have e0 : 0 ≤ a % n := Int.emod_nonneg a (show (n : Int) ≠ 0 by omega)
    obtain ⟨ad, u, rfl, hb, ht, hu, hc⟩ := h.reads.at_ (k := (a % n).toNat) (by omega)
    have hll : (a % n).toNat < l.length := by have := h.reads.1; simp [ints] at this; omega
    have hw := h.wf _ (List.getElem_mem hll)
    rw [ints_get l _ hll] at hu
    obtain ⟨x, hx⟩ : ∃ x, x = l[(a % n).toNat] := ⟨_, rfl⟩
    rw [← hx] at hu hw
    injection hu with hu
    subst hu
    clear hx
    have hc1 : (w.setCell ⟨p, 1, none⟩ (.int .i64 (a + 1))).cell? (ad.add (a % n).toNat) = some (.int .i64 x) := by
      rw [World.cell?_setCell_other _ _ _ _ (fun e => by have := congrArg Addr.block e; rw [block_of_add] at this; exact ht this.symm)]
      exact hc
    clear hc ht
    go_enter Tryz.func20, Tryz.ntmps20
    go_wp2_with fail
    go_quiet (fail)
    go_wp2_with fail
    go_quiet (fail)
    go_wp2_with fail
    refine (below_any _ _ _ (by omega)).mono ?_
    rintro e w' ⟨rfl, rfl⟩
    go_wp2_with fail
    refine (below_any _ _ _ hm).mono ?_
    rintro e w' ⟨rfl, rfl⟩
    go_wp2_with fail
    go_ret
    exact ⟨_, a + 1, rfl, belowF_range _ m, by omega, by omega, (h.set _ (by omega)).drewN _, (Keeps.setCell (Keeps.refl (· = p) w) (fun _ => rfl) _).drewN _⟩

set_option maxHeartbeats 400000 in
theorem range_any (w : World) (p : Nat) (A : Option Addr) (n c : Nat) (l : List Int) (a lo hi : Int) (h : Str w p A n c l a) (ha : a ≤ 1000000000)
    (h1 : -1000000000000 ≤ lo) (h2 : lo ≤ hi) (h3 : hi ≤ 1000000000000) :
    Calls Tryz.prog 9 #[.pointer (some ⟨p, 0, none⟩), .int .i64 lo, .int .i64 hi] w (StrPost w p A n c l a 1 fun v => lo ≤ v ∧ v ≤ hi) := by
  go_enter Tryz.func9, Tryz.ntmps9
  go_wp2_with fail
  refine (next_any w p A n c l a _ h ha (by omega)).mono ?_
  rintro e w' ⟨v, a', rfl, ⟨r1, r2, r3⟩, g1, g2, hs, hk⟩
  have r4 := r2 (by omega)
  clear r2 r3
  go_wp2_with fail
  go_ret
  exact ⟨_, a', rfl, ⟨by omega, by omega⟩, g1, g2, hs, hk⟩

set_option maxHeartbeats 400000 in
theorem flip_any (w : World) (p : Nat) (A : Option Addr) (n c : Nat) (l : List Int) (a m : Int) (h : Str w p A n c l a) (ha : a ≤ 1000000000) (hm : -9223372036854775808 ≤ m ∧ m ≤ 9223372036854775807) :
    Calls Tryz.prog 10 #[.pointer (some ⟨p, 0, none⟩), .int .i64 m] w fun e w' => ∃ b a', e = .returned (.bool b) ∧ a ≤ a' ∧ a' ≤ a + 1 ∧ Str w' p A n c l a' ∧ Keeps (· = p) w w' := by
  go_enter Tryz.func10, Tryz.ntmps10
  go_wp2_with fail
  refine (next_any w p A n c l a _ h ha hm).mono ?_
  rintro e w' ⟨v, a', rfl, ⟨r1, r2, r3⟩, g1, g2, hs, hk⟩
  clear r2 r3
  go_wp2_with fail
  go_ret
  exact ⟨_, a', rfl, g1, g2, hs, hk⟩

set_option maxHeartbeats 400000 in
theorem pick_any (w : World) (p : Nat) (A : Option Addr) (n c : Nat) (l : List Int) (a : Int) (h : Str w p A n c l a) (ha : a ≤ 1000000000)
    (C : Addr) (k cap : Nat) (xs : List Int) (T : Nat → Prop) (hx : Reads w T 1 (some C) k (ints xs)) (hT : ¬ T p) (hk0 : 0 < k) (hk1 : k ≤ 1000000) :
    Calls Tryz.prog 26 #[.pointer (some ⟨p, 0, none⟩), .slice (some C) k cap] w (StrPost w p A n c l a 1 fun v => v ∈ xs) := by
  go_enter Tryz.func26, Tryz.ntmps26
  go_wp2_with fail
  refine (next_any w p A n c l a _ h ha (by omega)).mono ?_
  rintro e w' ⟨v, a', rfl, ⟨r1, r2, r3⟩, g1, g2, hs, hk⟩
  have r4 := r2 (by omega)
  clear r2 r3
  have hx' := hx.keeps hk (fun i hi => by rintro rfl; exact hT hi)
  obtain ⟨v, rfl⟩ := Int.eq_ofNat_of_zero_le r1
  obtain ⟨ad, u, he, _, _, hu, hc⟩ := hx'.at_ (k := v) (by omega)
  injection he with he
  subst he
  have hv : v < xs.length := by have := hx.1; simp [ints] at this; omega
  rw [ints_get xs _ hv] at hu
  have hmem := List.getElem_mem hv
  injection hu with hu
  rw [← hu] at hc
  obtain ⟨y, hy⟩ : ∃ y, y = xs[v] := ⟨_, rfl⟩
  rw [← hy] at hc hmem
  clear hy hu
  go_wp2_with fail
  go_ret
  exact ⟨_, a', rfl, hmem, g1, g2, hs, hk⟩

set_option maxHeartbeats 400000 in
theorem word_any (w : World) (p : Nat) (A : Option Addr) (n c : Nat) (l : List Int) (a : Int) (h : Str w p A n c l a) (ha : a ≤ 900000000) :
    Calls Tryz.prog 59 #[.pointer (some ⟨p, 0, none⟩)] w (StrPost w p A n c l a 3 fun v => -2147483648 ≤ v ∧ v ≤ 2147483647) := by
  go_enter Tryz.func59, Tryz.ntmps59
  go_wp2_with fail
  refine (next_any w p A n c l a _ h (by omega) (by omega)).mono ?_
  rintro e w' ⟨v, a', rfl, ⟨r1, r2, r3⟩, g1, g2, hs, hk⟩
  clear r2 r3
  go_wp2_with fail
  · refine (next_any _ p A n c l a' _ hs (by omega) (by omega)).mono ?_
    rintro e w2 ⟨v2, a2, rfl, ⟨q1, q2, q3⟩, k1, k2, hs2, hk2⟩
    have q4 := q2 (by omega)
    clear q2 q3
    go_wp2_with fail
    go_ret
    exact ⟨_, a2, rfl, ⟨by omega, by omega⟩, by omega, by omega, hs2, hk.tr hk2⟩
  · refine (next_any _ p A n c l a' _ hs (by omega) (by omega)).mono ?_
    rintro e w2 ⟨v2, a2, rfl, ⟨q1, q2, q3⟩, k1, k2, hs2, hk2⟩
    have q4 := q2 (by omega)
    clear q2 q3
    go_wp2_with fail
    go_ret
    exact ⟨_, a2, rfl, ⟨by omega, by omega⟩, by omega, by omega, hs2, hk.tr hk2⟩
  · refine (next_any _ p A n c l a' _ hs (by omega) (by omega)).mono ?_
    rintro e w2 ⟨v2, a2, rfl, ⟨q1, q2, q3⟩, k1, k2, hs2, hk2⟩
    have q4 := q2 (by omega)
    clear q2 q3
    go_wp2_with fail
    refine (next_any _ p A n c l a2 _ hs2 (by omega) (by omega)).mono ?_
    rintro e w3 ⟨v3, a3, rfl, ⟨u1, u2, u3⟩, l1, l2, hs3, hk3⟩
    have u4 := u2 (by omega)
    clear u2 u3
    go_wp2_with fail
    go_ret
    exact ⟨_, a3, rfl, ⟨by omega, by omega⟩, by omega, by omega, hs3, (hk.tr hk2).tr hk3⟩
  · refine (range_any _ p A n c l a' _ _ hs (by omega) (by omega) (by omega) (by omega)).mono ?_
    rintro e w2 ⟨v2, a2, rfl, ⟨q1, q2⟩, k1, k2, hs2, hk2⟩
    go_wp2_with fail
    go_ret
    exact ⟨_, a2, rfl, ⟨by omega, by omega⟩, by omega, by omega, hs2, hk.tr hk2⟩

set_option maxHeartbeats 400000 in
theorem int_any (w : World) (p : Nat) (A : Option Addr) (n c : Nat) (l : List Int) (a : Int) (h : Str w p A n c l a) (ha : a ≤ 800000000) :
    Calls Tryz.prog 60 #[.pointer (some ⟨p, 0, none⟩)] w (StrPost w p A n c l a 4 fun v => -1099511627776 ≤ v ∧ v ≤ 1099511627777) := by
  have hp := h.blk.lt
  go_enter Tryz.func60, Tryz.ntmps60
  go_wp2_with fail
  refine (flip_any w p A n c l a _ h (by omega) (by omega)).mono ?_
  rintro e w' ⟨b, a', rfl, g1, g2, hs, hk⟩
  have hp' := hs.blk.lt
  go_wp2_with fail
  · refine (pick_any _ p A n c l a' (hs.alloc _) (by omega) _ _ _ [2147483648, -2147483649, 4294967296, 1099511627777, -1099511627776] _ (reads_new _ _ _ _ rfl) (by show ¬ (p = _); omega) (by decide) (by decide)).mono ?_
    rintro e w2 ⟨v2, a2, rfl, q1, k1, k2, hs2, hk2⟩
    go_wp2_with fail
    go_ret
    refine ⟨_, a2, rfl, ?_, by omega, by omega, hs2, ((hk.alloc _).tr hk2)⟩
    simp at q1
    omega
  · refine (word_any _ p A n c l a' hs (by omega)).mono ?_
    rintro e w2 ⟨v2, a2, rfl, ⟨q1, q2⟩, k1, k2, hs2, hk2⟩
    go_wp2_with fail
    go_ret
    exact ⟨_, a2, rfl, ⟨by omega, by omega⟩, by omega, by omega, hs2, hk.tr hk2⟩
end Go.Proofs.YtedkfehdfmimoaaGreat

/- chip.turns: how often each instruction is executed. chip.Check accepts what the generator makes, and a machine that is wrong is told. chip.words, chip.Encode. -/
import Derived.Test.YtpcejpcbkjnlkaaGreatDoorZa20
import Derived.Test.YtpcejpcbkjnlkaaGreatDoorZa22
import Derived.Test.YtpcejpcbkjnlkaaGreatDoorZa11
set_option linter.unusedVariables false
namespace Go.Proofs.YtpcejpcbkjnlkaaGreatDoor
open Go.RowKit

theorem Own.pop {w : World} {T : Nat → Prop} {e : TypeId} {g k cap : Nat} {xs : List Value} {u : Value} (h : Own w T e 1 (.slice (some ⟨g, 0, none⟩) (k + 1) cap) (k + 1) (xs ++ [u])) : Own w T e 1 (.slice (some ⟨g, 0, none⟩) k cap) k xs := by
  obtain ⟨⟨hl, h1⟩, h2⟩ := h
  rw [List.length_append, List.length_singleton] at hl
  refine ⟨⟨by omega, ?_⟩, fun g' e => h2 g' e⟩
  rcases h1 with ⟨e, _⟩ | ⟨g', cap', cur, e, hb, hh, hk, hm, hs, ht⟩
  · cases e
  · injection e with e1 e2 e3
    injection e1 with e1
    injection e1 with e1
    subst e1 e3
    refine Or.inr ⟨g, cap, cur, rfl, hb, hh, by omega, hm, hs, ?_⟩
    rw [Nat.mul_one] at ht ⊢
    have := congrArg (List.take k) ht
    rw [List.take_take, Nat.min_eq_left (by omega), List.take_left' (by omega)] at this
    exact this
/-- the cells of an instruction -/
theorem Own.ins {w : World} {T : Nat → Prop} {g cap : Nat} {xs : List Ins} (h : Own w T 44 9 (.slice (some ⟨g, 0, none⟩) xs.length cap) xs.length (insL xs)) (i : Nat) (hi : i < xs.length) :
    w.cell? ⟨g, i * 9, none⟩ = some (.int .i64 xs[i].op) ∧ w.cell? ⟨g, i * 9 + 1, none⟩ = some (.int .i64 xs[i].k) ∧ w.cell? ⟨g, i * 9 + 2, none⟩ = some (.int .i64 xs[i].d) ∧ w.cell? ⟨g, i * 9 + 3, none⟩ = some (.int .i64 xs[i].a) ∧ w.cell? ⟨g, i * 9 + 4, none⟩ = some (.int .i64 xs[i].b) ∧
    w.cell? ⟨g, i * 9 + 5, none⟩ = some (.int .i64 xs[i].c) ∧ w.cell? ⟨g, i * 9 + 6, none⟩ = some (.int .i64 xs[i].p) ∧ w.cell? ⟨g, i * 9 + 7, none⟩ = some (.int .i64 xs[i].n) ∧ w.cell? ⟨g, i * 9 + 8, none⟩ = some (.int .i64 xs[i].m) := by
  have hs : xs = xs.take i ++ xs[i] :: xs.drop (i + 1) := by rw [List.getElem_cons_drop, List.take_append_drop]
  have key : ∀ j, j < 9 → w.cell? ⟨g, i * 9 + j, none⟩ = xs[i].cells[j]? := by
    intro j hj
    rw [h.cellN _ (by omega)]
    have := insL_get (xs.take i) xs[i] (xs.drop (i + 1)) j hj
    rw [← hs, List.length_take, Nat.min_eq_left (by omega)] at this
    exact this
  exact ⟨key 0 (by omega), key 1 (by omega), key 2 (by omega), key 3 (by omega), key 4 (by omega), key 5 (by omega), key 6 (by omega), key 7 (by omega), key 8 (by omega)⟩
theorem turns_take (l : List Int) (i n : Nat) (t : Int) (h : l[i]? = some t) (hi : i < n) : (l.take i ++ List.replicate (n - i) 0).set i t = l.take (i + 1) ++ List.replicate (n - (i + 1)) 0 := by
  have hil : i < l.length := (List.getElem?_eq_some_iff.1 h).1
  have hlt : (l.take i).length = i := by rw [List.length_take]; omega
  rw [List.set_append_right _ _ (by omega), hlt, Nat.sub_self, show n - i = (n - (i + 1)) + 1 by omega, List.replicate_succ, List.set_cons_zero, List.take_add_one, h]
  simp
theorem reads_q (w : World) (xs : List Int) (n : Nat) (hn : n = xs.length) (q : Nat) (hq : q = w.heap.size) : Reads (w.alloc (.cells (ints xs).toArray 3)) (· = w.heap.size) 1 (some ⟨q, 0, none⟩) n (ints xs) := by
  subst hq
  exact reads_new w 3 xs n hn
theorem own_lit' (w : World) (T : Nat → Prop) (e : TypeId) (xs : List Value) (n : Nat) (hn : n ≤ maxLen) (hl : xs.length = n) (hT : T w.heap.size) :
    Own (w.alloc (.cells xs.toArray e)) T e 1 (.slice (some ⟨w.heap.size, 0, none⟩) n n) n xs :=
  ⟨by simpa using World.ownsRow_lit (base := 0) (size := 1) (e := e) w xs.toArray n (Nat.zero_le _) hn (by simpa using hl), fun g hg => by simp [Value.ownBlock] at hg; subst hg; exact hT⟩
set_option maxRecDepth 100000 in
set_option maxHeartbeats 8000000 in
theorem turns_any (w : World) {T : Nat → Prop} {v : Value} (xs : List Ins) (h : Own w T 44 9 v xs.length (insL xs)) (hl : xs.length ≤ 400000) (hall : (turnsF [1] xs).length = xs.length) (hm : ∀ x ∈ xs, x.op = 3 → 0 ≤ x.m ∧ x.m ≤ 1000000) :
    Calls Tryz.prog 41 #[v] w fun e w' => ∃ v', e = .returned v' ∧ Own w' (w.heap.size ≤ ·) 3 1 v' xs.length (ints (turnsF [1] xs)) ∧ Below w.heap.size w w' := by
  obtain ⟨A, c, rfl, -, -⟩ := h.shape
  obtain ⟨i0, hi0, hz0, hz1, hz2⟩ := info_parts int_info
  have H := Lib.hid h
  have HALL := Lib.hid hall
  have HM := Lib.hid hm
  obtain ⟨N, hN⟩ : ∃ N, N = xs.length := ⟨_, rfl⟩
  rw [← hN] at hl ⊢
  have HN := Lib.hid hN
  clear h hall hm hN
  go_enter Tryz.func41, Tryz.ntmps41
  go_upto_region 2 with (at_make; refine wpList_make_ints _ rfl _ _ rfl _ _ N rfl rfl rfl rfl (by omega) ?_; intro w1 hown hb1 hz1)
  go_wp2_with fail
  have ho0 := own_lit' w1 (fun g => w.heap.size ≤ g ∧ g ≠ w.heap.size) 3 (ints [1]) 1 (by decide) rfl ⟨by omega, by omega⟩
  have hou0 := hown.alloc (.cells #[.int .i64 1] 3)
  have hb2 := hb1.alloc (by omega) (.cells #[.int .i64 1] 3)
  clear hown hb1
  have ho0 : Own (w1.alloc (.cells #[.int .i64 1] 3)) (fun g => w.heap.size ≤ g ∧ g ≠ w.heap.size) 3 1 (.slice (some ⟨w1.heap.size, 0, none⟩) 1 1) 1 (ints [1]) := ho0
  generalize w1.alloc (.cells #[.int .i64 1] 3) = w2 at *
  go_loopw [4, 14] (fun tv iv wr => ∃ (i : Nat) (st : List Int), i ≤ N ∧ iv = .int .i64 i ∧ st = stackF [1] (xs.take i) ∧ Own wr (fun g => w.heap.size ≤ g ∧ g ≠ w.heap.size) 3 1 tv st.length (ints st.reverse) ∧ Own wr (· = w.heap.size) 3 1 (.slice (some ⟨w.heap.size, 0, none⟩) N N) N (ints ((turnsF [1] xs).take i ++ List.replicate (N - i) 0)) ∧ Below w.heap.size w wr) (fun _ i _ => N - (intOf i).toNat)
  case atStart => exact ⟨0, [1], by omega, rfl, rfl, ho0, by simpa using hou0, hb2⟩
  obtain ⟨i, st, hi, rfl, hst, hot, hou, hbr⟩ := hrel
  clear ho0 hou0 hb2 hz1
  by_cases hlt : i < N
  · have hix : i < xs.length := by rw [← HN.out]; exact hlt
    obtain ⟨now, st', e1, e2, e3⟩ := turns_step xs [1] HALL.out i hix
    have hrange := stack_range (xs.take i) [1] (fun y hy h3 => (HM.out y (List.mem_of_mem_take hy) h3).1) (by simp)
    have hsl := stack_length (xs.take i) [1]
    rw [e1] at hst hrange hsl
    subst hst
    obtain ⟨n0, n1⟩ := hrange now List.mem_cons_self
    have hmx := HM.out xs[i] (List.getElem_mem hix)
    have hcode := H.out.fresh (hbr.mono (Nat.le_refl _))
    obtain ⟨g, cap, hA, -, -, hgl, -⟩ := hcode.form (by omega)
    injection hA with hA1 hA2 hA3
    subst hA1 hA3
    obtain ⟨d0, d1, d2, d3, d4, d5, d6, d7, d8⟩ := hcode.ins i hix
    obtain ⟨x, hx⟩ : ∃ x, x = xs[i] := ⟨_, rfl⟩
    rw [← hx] at d0 d1 d2 d3 d4 d5 d6 d7 d8 e3 hmx
    obtain ⟨k, hk⟩ : ∃ k, k = st'.length := ⟨_, rfl⟩
    have hkl : k ≤ 400001 := by rw [List.length_cons, List.length_singleton, List.length_take] at hsl; omega
    rw [List.reverse_cons] at hot
    rw [show (now :: st').length = k + 1 by rw [List.length_cons, hk]] at hot
    have hots : ints (st'.reverse ++ [now]) = ints st'.reverse ++ [.int .i64 now] := by simp [ints]
    obtain ⟨g4, cap4, rfl, hkc, -, hl4, ⟨t1, t2⟩⟩ := hot.form (by omega)
    have hkc : k ≤ cap4 := by omega
    have c4 : wr.cell? ⟨g4, k, none⟩ = some (.int .i64 now) := by
      rw [hot.get k (by omega), hots, List.getElem?_append_right (by rw [ints_length, List.length_reverse]; omega), ints_length, List.length_reverse, hk]
      simp
    have c3 := hou.get i hlt
    have f3 := hou.unfrozen i
    rw [ints_get _ i (by rw [List.length_append, List.length_take, List.length_replicate, HALL.out]; omega)] at c3
    have hgN : g ≠ w.heap.size := by have := H.out.lt (g := g) rfl; omega
    have hw1 : IntKind.i64.wrap ((k : Int) + 1 - 1) = (k : Int) := (IntWalk.i64_in _ ⟨by omega, by omega⟩).trans (by omega)
    have hw2 : IntKind.i64.wrap (((k + 1 : Nat) : Int) - 1) = (k : Int) := (IntWalk.i64_in _ ⟨by omega, by omega⟩).trans (by omega)
    have HOT := Lib.hid hot
    have HOU := Lib.hid hou
    have HBR := Lib.hid hbr
    have HST := Lib.hid e3
    have HNX := Lib.hid e2
    have HKK := Lib.hid hk
    have HTS := Lib.hid hots
    have zr := hbr.size
    have z3 : w.heap.size < wr.heap.size := hou.lt rfl
    clear hot hou hbr e1 e2 e3 hx hcode hrange hsl hots hk hgl
    -- what holds behind the load of the instruction and the store of its count
    have HOU1 : Hid (∀ o, Own ((wr.setCell ⟨w.heap.size, i, none⟩ (.int .i64 now)).alloc o) (· = w.heap.size) 3 1 (.slice (some ⟨w.heap.size, 0, none⟩) N N) N (ints ((turnsF [1] xs).take (i + 1) ++ List.replicate (N - (i + 1)) 0))) := Lib.hid fun o => by
      have h := (HOU.out.set i hlt (.int .i64 now)).alloc o
      have e : (ints ((turnsF [1] xs).take i ++ List.replicate (N - i) 0)).set i (.int .i64 now) = ints ((turnsF [1] xs).take (i + 1) ++ List.replicate (N - (i + 1)) 0) := by
        rw [← turns_take (turnsF [1] xs) i N now HNX.out hlt]
        simp [ints, List.map_set]
      rw [e] at h
      exact h
    have HOT1 : Hid (∀ o, Own ((wr.setCell ⟨w.heap.size, i, none⟩ (.int .i64 now)).alloc o) (fun g => w.heap.size ≤ g ∧ g ≠ w.heap.size) 3 1 (.slice (some ⟨g4, 0, none⟩) (k + 1) cap4) (k + 1) (ints (st'.reverse ++ [now]))) := Lib.hid fun o => (HOT.out.setCell (p := ⟨w.heap.size, i, none⟩) (fun e => e.2 rfl) (.int .i64 now)).alloc o
    have HB1 : Hid (∀ o, Below w.heap.size w ((wr.setCell ⟨w.heap.size, i, none⟩ (.int .i64 now)).alloc o)) := Lib.hid fun o => (HBR.out.setCell (p := ⟨w.heap.size, i, none⟩) (Nat.le_refl _) (.int .i64 now)).alloc (by simp; omega) o
    clear HOU HOT HBR HNX
    by_cases h3 : x.op = 3
    · obtain ⟨m0, m1⟩ := hmx h3
      rw [h3] at d0
      have hp0 := Int.mul_nonneg n0 m0
      have hp1 : now * x.m ≤ 40000001 * 1000000 := Int.mul_le_mul n1 m1 m0 (by omega)
      have hwm : wrap64 (now * x.m) = now * x.m := IntWalk.wrap64_in _ ⟨by omega, by omega⟩
      obtain ⟨b, hb⟩ : ∃ b, (if 40000001 < wrap64 (now * x.m) then (40000001 : Int) else wrap64 (now * x.m)) = b := ⟨_, rfl⟩
      have hbm : min (now * x.m) 40000001 = b := by
        rw [hwm] at hb
        split at hb <;> omega
      have HS3 : Hid (stackF [1] (xs.take (i + 1)) = b :: now :: st') := Lib.hid (by rw [HST.out, pushT, if_pos h3, hbm])
      clear hwm hbm
      have HH3 := Lib.hid h3
      clear HST h3 hmx hp0 hp1 m0 m1
      go_wp2_with (at_builtin; go_must (refine wpList_append_any _ rfl _ _ 22 rfl 3 i0 _ 1 8 Tryz.underlying22 hi0 hz0 hz1 hz2 rfl (by omega) (.slice (some ⟨g4, 0, none⟩) (k + 1) cap4) (k + 1) _ rfl ((HOT1.out _).alloc _) _ 1 1 _ rfl (reads_q _ [b] 1 rfl _ (by simp)) (ints_one _) (by unfold maxLen; omega) (by omega) ?_); intro v' w8 happ)
      go_roundw
      case rel =>
        obtain ⟨p1, p2, p3⟩ := happ
        refine ⟨i + 1, b :: now :: st', by omega, by go_num, HS3.out.symm, ?_, ((HOU1.out _).alloc _).grown p2 (fun g e h => ?_), ((HB1.out _).alloc (by simp; omega) _).grown p2 (by simp; omega) (fun g e => ?_)⟩
        · have e : ints (b :: now :: st').reverse = ints (st'.reverse ++ [now]) ++ ints [b] := by simp [ints]
          rw [e, show (b :: now :: st').length = k + 1 + 1 by rw [List.length_cons, List.length_cons, HKK.out]]
          exact p1.more fun g _ h => by
            rcases h with h | h
            · exact h
            · simp at h; omega
        · simp [Value.ownBlock] at e
          omega
        · simp [Value.ownBlock] at e
          omega
      case measure => simp [intOf]; omega
    have z3' : (x.op == 3) = false := by simpa using h3
    by_cases h4 : x.op = 4
    · rw [h4] at d0
      have HS4 : Hid (stackF [1] (xs.take (i + 1)) = st') := Lib.hid (by rw [HST.out, pushT, if_neg h3, if_pos h4])
      clear HST h3 h4 hmx z3'
      go_wp2_with fail
      go_roundw
      case rel =>
        refine ⟨i + 1, st', by omega, by go_num, HS4.out.symm, ?_, HOU1.out _, HB1.out _⟩
        rw [← HKK.out]
        refine Own.pop (u := .int .i64 now) ?_
        rw [← HTS.out]
        exact HOT1.out _
      case measure => simp [intOf]; omega
    · have z4' : (x.op == 4) = false := by simpa using h4
      have HS5 : Hid (stackF [1] (xs.take (i + 1)) = now :: st') := Lib.hid (by rw [HST.out, pushT, if_neg h3, if_neg h4])
      clear HST h3 h4 hmx
      go_wp2_with fail
      go_roundw
      case rel =>
        refine ⟨i + 1, now :: st', by omega, by go_num, HS5.out.symm, ?_, HOU1.out _, HB1.out _⟩
        rw [List.reverse_cons, show (now :: st').length = k + 1 by rw [List.length_cons, HKK.out]]
        exact HOT1.out _
      case measure => simp [intOf]; omega
  · obtain rfl : i = N := by omega
    rw [show (turnsF [1] xs).take i ++ List.replicate (i - i) 0 = turnsF [1] xs by rw [Nat.sub_self, List.replicate_zero, List.append_nil, HN.out, ← HALL.out, List.take_length]] at hou
    go_wp2_with fail
    go_ret
    exact ⟨_, rfl, hou.more (fun g _ e => Nat.le_of_eq e.symm), hbr⟩
end Go.Proofs.YtpcejpcbkjnlkaaGreatDoor

namespace Go.Proofs.YtpcejpcbkjnlkaaGreatDoor
open Go.RowKit

theorem InsOk.known {b k l q : Int} {x : Ins} (h : InsOk b k l q x) : AE.Known x := by
  obtain ⟨f, hf, ho⟩ := h
  exact fun e => Or.inr (args_range' (ho.ex.1 e).1)
theorem FormOk.zeros {b k l q : Int} {f : Frm} {x : Ins} (h : FormOk b k l q f x) : (f.d = 0 → x.d = 0) ∧ (f.a = 0 → x.a = 0) ∧ (f.b = 0 → x.b = 0) ∧ (f.c = 0 → x.c = 0) ∧ (f.n = 0 → x.n = 0) ∧ (f.m = 0 → x.m = 0) :=
  ⟨h.fd.1, h.fa.1, h.fb.1, h.fc.1, h.fn.1, h.fm.1⟩
set_option maxRecDepth 100000 in
set_option maxHeartbeats 4000000 in
theorem check_bad (m : Mach) (hm : m.ok = false) (w : World) (v : Value) : Calls Tryz.prog 19 #[m.val, v] w fun e w' => e = .returned (.int .i64 9) ∧ Below w.heap.size w w' := by
  have HCM := Lib.hid (fun W => cm_any m W)
  rw [hm] at HCM
  have HB := Lib.hid (Blk.new w 27 m.cells)
  have hi5 : (Tryz.prog.info? 27).map (·.size) = some 5 := by kernel_rfl
  have HB0 := Lib.hid ((Below.refl w.heap.size w).alloc (Nat.le_refl _) (.cells m.cells 27))
  unfold Mach.val
  go_enter Tryz.func19, Tryz.ntmps19
  go_wp2_with (refine wpList_load_blk rfl 27 _ rfl w.heap.size rfl 27 _ _ HB.out Tryz.underlying27 rfl hi5 ?_)
  refine (HCM.out _).mono ?_
  rintro e w1 ⟨rfl, hb1⟩
  have HB1 := Lib.hid (HB0.out.trans (hb1.mono HB0.out.size))
  clear hb1
  go_wp2_with fail
  go_ret
  exact ⟨rfl, HB1.out⟩
set_option maxRecDepth 100000 in
set_option maxHeartbeats 16000000 in
theorem check_any (m : Mach) (hm : m.ok = true) (w : World) {T : Nat → Prop} {v : Value} (xs : List Ins) (h : Own w T 44 9 v xs.length (insL xs)) (hc : CodeOk m xs) :
    Calls Tryz.prog 19 #[m.val, v] w fun e w' => e = .returned (.int .i64 0) ∧ Below w.heap.size w w' := by
  have hl := hc.len
  have HCM := Lib.hid (fun W => cm_any m W)
  rw [if_pos hm] at HCM
  have HOK := Lib.hid hm
  have HB := Lib.hid (Blk.new w 27 m.cells)
  have hi5 : (Tryz.prog.info? 27).map (·.size) = some 5 := by kernel_rfl
  have hi5c : (Tryz.prog.info? 102).map (·.size) = some 5 := by kernel_rfl
  have hi9 : (Tryz.prog.info? 44).map (·.size) = some 9 := by kernel_rfl
  have hi9f : (Tryz.prog.info? 104).map (·.size) = some 9 := by kernel_rfl
  have HB0 := Lib.hid ((Below.refl w.heap.size w).alloc (Nat.le_refl _) (.cells m.cells 27))
  obtain ⟨A, c, rfl, -, -⟩ := h.shape
  have H := Lib.hid h
  have HC := Lib.hid hc
  obtain ⟨N, hN⟩ : ∃ N, N = xs.length := ⟨_, rfl⟩
  rw [← hN] at hl ⊢
  unfold Mach.val at HCM ⊢
  unfold Mach.cells at HCM HB HB0 ⊢
  have HN := Lib.hid hN
  clear h hc hm hN
  go_enter Tryz.func19, Tryz.ntmps19
  go_wp2_with (refine wpList_load_blk rfl 27 _ rfl w.heap.size rfl 27 _ _ HB.out Tryz.underlying27 rfl hi5 ?_)
  refine (HCM.out _).mono ?_
  rintro e w1 ⟨rfl, hb1⟩
  have HB1 := Lib.hid (HB0.out.trans (hb1.mono HB0.out.size))
  have HM1 := Lib.hid (HB.out.below hb1 HB.out.lt)
  have zm := HM1.out.lt
  clear hb1 HB HB0
  go_upto_region 7 with (refine wpList_load_blk rfl 27 _ rfl w.heap.size rfl 27 _ _ HM1.out Tryz.underlying27 rfl hi5 ?_)
  have HKc := Lib.hid (Blk.new w1 102 #[.int .i64 m.main, .int .i64 m.banks, .int .i64 m.bank, .int .i64 m.lanes, .int .i64 m.queues])
  have HB2 := Lib.hid (HB1.out.alloc (by omega) (.cells #[.int .i64 m.main, .int .i64 m.banks, .int .i64 m.bank, .int .i64 m.lanes, .int .i64 m.queues] 102))
  have HTU := Lib.hid (fun W (hb : Below w.heap.size w W) => turns_any W xs (H.out.fresh hb) HC.out.len HC.out.all (fun x hx h3 => by
    obtain ⟨f, hf, ho⟩ := HC.out.ins x hx
    exact (ho.ex.2.1 h3).2))
  rw [← HN.out] at HTU
  obtain ⟨W0, hW0⟩ : ∃ W0, W0 = w1.alloc (.cells #[.int .i64 m.main, .int .i64 m.banks, .int .i64 m.bank, .int .i64 m.lanes, .int .i64 m.queues] 102) := ⟨_, rfl⟩
  rw [← hW0] at HKc HB2 ⊢
  have z0 : w1.heap.size < W0.heap.size := by rw [hW0]; simp
  clear hW0 HB1 HM1 zm
  go_wp2_with fail
  go_loopw [7, 27] (fun lv iv wr => ∃ (i k : Nat), i ≤ N ∧ iv = .int .i64 i ∧ lv = .int .i64 k ∧ loopsF k (xs.drop i) = some 0 ∧ k ≤ 16 ∧ Below W0.heap.size W0 wr) (fun _ i _ => N - (intOf i).toNat)
  case atStart => exact ⟨0, 0, by omega, rfl, rfl, HC.out.loops, by omega, Below.refl _ _⟩
  obtain ⟨i, k, hi, rfl, rfl, hlo, hk16, hbr⟩ := hrel
  have HBR := Lib.hid hbr
  have zr : W0.heap.size ≤ wr.heap.size := hbr.size
  have HKr := Lib.hid (HKc.out.below hbr HKc.out.lt)
  clear hbr
  by_cases hlt : i < N
  · have hix : i < xs.length := by rw [← HN.out]; exact hlt
    rw [List.drop_eq_getElem_cons hix, loopsF] at hlo
    have hins := HC.out.ins xs[i] (List.getElem_mem hix)
    have hcode := H.out.fresh (HB2.out.trans (HBR.out.mono HB2.out.size))
    obtain ⟨g, cap, hA, -, -, hgl, -⟩ := hcode.form (by omega)
    injection hA with hA1 hA2 hA3
    subst hA1 hA3
    obtain ⟨d0, d1, d2, d3, d4, d5, d6, d7, d8⟩ := hcode.ins i hix
    obtain ⟨x, hx⟩ : ∃ x, x = xs[i] := ⟨_, rfl⟩
    rw [← hx] at d0 d1 d2 d3 d4 d5 d6 d7 d8 hlo hins
    have hknown := hins.known
    obtain ⟨f, hf, ho⟩ := hins
    have HFO := Lib.hid (fun W => AE.form_any W x f hf hknown)
    have HUN := Lib.hid (fun W => unused_cells f.word f.k f.d f.a f.b f.c f.n f.m f.p x.op x.k x.d x.a x.b x.c x.p x.n x.m ho.k ho.p ho.zeros W)
    have HRA := Lib.hid (fun W => ranged_any m HOK.out x f hf ho W)
    unfold Mach.val at HRA
    unfold Ins.cells Frm.cells at HFO HRA
    unfold Mach.cells at HRA
    have HX := Lib.hid (Blk.new wr 44 #[.int .i64 x.op, .int .i64 x.k, .int .i64 x.d, .int .i64 x.a, .int .i64 x.b, .int .i64 x.c, .int .i64 x.p, .int .i64 x.n, .int .i64 x.m])
    have HBX := Lib.hid (HBR.out.alloc zr (.cells #[.int .i64 x.op, .int .i64 x.k, .int .i64 x.d, .int .i64 x.a, .int .i64 x.b, .int .i64 x.c, .int .i64 x.p, .int .i64 x.n, .int .i64 x.m] 44))
    have HLO := Lib.hid hlo
    have HKx := Lib.hid (HKr.out.alloc (.cells #[.int .i64 x.op, .int .i64 x.k, .int .i64 x.d, .int .i64 x.a, .int .i64 x.b, .int .i64 x.c, .int .i64 x.p, .int .i64 x.n, .int .i64 x.m] 44))
    clear hcode hx hknown hf ho hlo
    go_wp2_with fail
    refine (HFO.out _).mono ?_
    rintro e w3 ⟨rfl, hb3⟩
    have HX3 := Lib.hid (HX.out.below hb3 HX.out.lt)
    have HK3 := Lib.hid (HKx.out.below hb3 HKx.out.lt)
    have HB3 := Lib.hid (HBX.out.trans (hb3.mono HBX.out.size))
    have HF3 := Lib.hid (Blk.new w3 104 #[.string ⟨f.word.toArray⟩, .bool f.k, .int .i64 f.d, .int .i64 f.a, .int .i64 f.b, .int .i64 f.c, .int .i64 f.n, .int .i64 f.m, .bool f.p])
    have z3 : wr.heap.size < w3.heap.size := by have := hb3.size; simp at this; omega
    clear hb3 d0 d1 d2 d3 d4 d5 d6 d7 d8 HX HBX HKx HFO
    go_wp2_with (first | (refine wpList_load_blk rfl 44 _ rfl wr.heap.size rfl 44 _ _ (HX3.out.alloc _) Tryz.underlying44 rfl hi9 ?_) | (refine wpList_load_blk rfl 104 _ rfl w3.heap.size rfl 104 _ _ HF3.out Tryz.underlying104 rfl hi9f ?_))
    refine (HUN.out _).mono ?_
    rintro e w4 ⟨rfl, hb4⟩
    have HX4 := Lib.hid ((HX3.out.alloc _).below hb4 (HX3.out.alloc _).lt)
    have HK4 := Lib.hid ((HK3.out.alloc _).below hb4 (HK3.out.alloc _).lt)
    have HF4 := Lib.hid (HF3.out.below hb4 HF3.out.lt)
    have HB4 := Lib.hid ((HB3.out.alloc (by omega) (.cells #[.string ⟨f.word.toArray⟩, .bool f.k, .int .i64 f.d, .int .i64 f.a, .int .i64 f.b, .int .i64 f.c, .int .i64 f.n, .int .i64 f.m, .bool f.p] 104)).trans (hb4.mono (by simp; omega)))
    clear hb4 HX3 HK3 HF3 HB3 HUN
    go_wp2_with (first | (refine wpList_load_blk rfl 44 _ rfl wr.heap.size rfl 44 _ _ HX4.out Tryz.underlying44 rfl hi9 ?_) | (refine wpList_load_blk rfl 104 _ rfl w3.heap.size rfl 104 _ _ HF4.out Tryz.underlying104 rfl hi9f ?_) | (refine wpList_load_blk rfl 102 _ rfl w1.heap.size rfl 102 _ _ HK4.out Tryz.underlying102 rfl hi5c ?_))
    refine (HRA.out _).mono ?_
    rintro e w5 ⟨rfl, hb5⟩
    have e0 : w5.cell? ⟨wr.heap.size, 0, none⟩ = some (.int .i64 x.op) := (HX4.out.below hb5 HX4.out.lt).cell 0
    have HB5 := Lib.hid (HB4.out.trans (hb5.mono HB4.out.size))
    have z5 : wr.heap.size < w5.heap.size := (HX4.out.below hb5 HX4.out.lt).lt
    clear hb5 HX4 HK4 HF4 HB4 HRA
    have hlo := HLO.out
    split at hlo
    · cases hlo
    split at hlo
    · cases hlo
    rename_i q1 q2
    by_cases h3 : x.op = 3
    · rw [if_pos h3] at hlo
      rw [h3] at e0
      have hk : k < 16 := by omega
      have HL5 := Lib.hid hlo
      clear hlo q1 q2 h3
      go_wp2_with fail
      go_roundw
      case rel => exact ⟨i + 1, k + 1, by omega, by go_num, by go_num, HL5.out, by omega, HB5.out⟩
      case measure => simp [intOf]; omega
    rw [if_neg h3] at hlo
    have h3' : (x.op == 3) = false := by simpa using h3
    by_cases h4 : x.op = 4
    · rw [if_pos h4] at hlo
      rw [h4] at e0
      obtain ⟨k, rfl⟩ : ∃ k', k = k' + 1 := ⟨k - 1, by omega⟩
      have HL5 := Lib.hid hlo
      have hkw : wrap64 ((k : Int) + 1 - 1) = (k : Int) := (IntWalk.wrap64_in _ ⟨by omega, by omega⟩).trans (by omega)
      clear hlo q1 q2 h3 h3' h4
      go_wp2_with fail
      go_roundw
      case rel => exact ⟨i + 1, k, by omega, by go_num, by go_num, HL5.out, by omega, HB5.out⟩
      case measure => simp [intOf]; omega
    · rw [if_neg h4] at hlo
      have h4' : (x.op == 4) = false := by simpa using h4
      have HL5 := Lib.hid hlo
      clear hlo q1 q2 h3 h4
      go_wp2_with fail
      go_roundw
      case rel => exact ⟨i + 1, k, by omega, by go_num, by go_num, HL5.out, by omega, HB5.out⟩
      case measure => simp [intOf]; omega
  · obtain rfl : i = N := by omega
    obtain rfl : k = 0 := by
      rw [HN.out, List.drop_length] at hlo
      injection hlo
    clear hlo
    go_wp2_with fail
    refine (HTU.out _ (HB2.out.trans (HBR.out.mono HB2.out.size))).mono ?_
    rintro e w2 ⟨v2, rfl, hown, hb2⟩
    have HF := Lib.hid ((HB2.out.trans (HBR.out.mono HB2.out.size)).trans (hb2.mono (HB2.out.trans (HBR.out.mono HB2.out.size)).size))
    obtain ⟨A2, c2, rfl, -, -⟩ := hown.shape
    have HOW := Lib.hid hown
    clear hown hb2
    go_wp2_with fail
    go_loopw [12, 81] (fun tv jv wr2 => ∃ j : Nat, j ≤ i ∧ jv = .int .i64 j ∧ tv = .int .i64 ((turnsF [1] xs).take j).sum ∧ wr2 = w2) (fun _ j _ => i - (intOf j).toNat)
    case atStart => exact ⟨0, by omega, rfl, by simp, rfl⟩
    obtain ⟨j, hj, rfl, rfl, rfl⟩ := hrel
    by_cases hjl : j < i
    · obtain ⟨ad, u, rfl, -, -, hu, hcu⟩ := HOW.out.reads.at_ hjl
      have hjt : j < (turnsF [1] xs).length := by rw [HC.out.all, ← HN.out]; exact hjl
      rw [ints_get _ j hjt] at hu
      injection hu with hu
      subst hu
      have hs1 := sum_take (turnsF [1] xs) HC.out.nonneg j
      have hs2 := sum_take (turnsF [1] xs) HC.out.nonneg (j + 1)
      have hs3 := sum_take_succ (turnsF [1] xs) j hjt
      have hs4 := HC.out.turns
      have HS3 := Lib.hid hs3
      obtain ⟨S, hS⟩ : ∃ S, S = ((turnsF [1] xs).take j).sum := ⟨_, rfl⟩
      obtain ⟨t, ht⟩ : ∃ t, t = (turnsF [1] xs)[j] := ⟨_, rfl⟩
      rw [← hS] at hs1 hs3 ⊢
      rw [← ht] at hs3 hcu
      rw [hs3] at hs2
      have HSS := Lib.hid (hs3.symm)
      have hw : wrap64 (S + t) = S + t := IntWalk.wrap64_in _ ⟨by omega, by omega⟩
      have hle : ¬ 40000000 < S + t := by omega
      clear hs1 hs2 hs3 hs4 hS ht HS3
      go_wp2_with fail
      go_roundw
      case rel => exact ⟨j + 1, by omega, by go_num, by rw [← HSS.out]; go_num, (by first | rfl | trivial)⟩
      case measure => simp [intOf]; omega
    · go_wp2_with fail
      go_ret
      exact ⟨rfl, HF.out⟩
end Go.Proofs.YtpcejpcbkjnlkaaGreatDoor

namespace Go.Proofs.YtpcejpcbkjnlkaaGreatDoor
open Go.RowKit

theorem reads_rowE (w : World) (t : TypeId) (xs : List Value) (size n : Nat) (hn : xs.length = n * size) : Reads (w.alloc (.cells xs.toArray t)) (· = w.heap.size) size (some ⟨w.heap.size, 0, none⟩) n xs := by
  refine ⟨hn, fun _ => ⟨_, rfl, by simp, rfl, fun j u hu => ?_⟩⟩
  have h : Blk (w.alloc (.cells xs.toArray t)) w.heap.size t xs.toArray := Blk.new w t _
  rw [Addr.add_lit, h.cell]
  simpa using hu
set_option maxRecDepth 100000 in
set_option maxHeartbeats 4000000 in
theorem words_any (x : Ins) (hs : Small x) (w : World) : Calls Tryz.prog 24 #[.agg x.cells] w fun e w' => e = .returned (.agg (ints (wordsF x)).toArray) ∧ Below w.heap.size w w' := by
  obtain ⟨⟨o1, o2⟩, ⟨k1, k2⟩, ⟨d1, d2⟩, ⟨a1, a2⟩, ⟨b1, b2⟩, ⟨c1, c2⟩, ⟨p1, p2⟩, -, -⟩ := hs
  have w1 : wrap64 (64 * x.k) = 64 * x.k := IntWalk.wrap64_in _ ⟨by omega, by omega⟩
  have w2 : wrap64 (x.op + 64 * x.k) = x.op + 64 * x.k := IntWalk.wrap64_in _ ⟨by omega, by omega⟩
  have w3 : wrap64 (4096 * x.d) = 4096 * x.d := IntWalk.wrap64_in _ ⟨by omega, by omega⟩
  have w4 : wrap64 (x.op + 64 * x.k + 4096 * x.d) = x.op + 64 * x.k + 4096 * x.d := IntWalk.wrap64_in _ ⟨by omega, by omega⟩
  have w5 : wrap64 (131072 * x.a) = 131072 * x.a := IntWalk.wrap64_in _ ⟨by omega, by omega⟩
  have w6 : wrap64 (x.op + 64 * x.k + 4096 * x.d + 131072 * x.a) = x.op + 64 * x.k + 4096 * x.d + 131072 * x.a := IntWalk.wrap64_in _ ⟨by omega, by omega⟩
  have w7 : wrap64 (x.c + 1024) = x.c + 1024 := IntWalk.wrap64_in _ ⟨by omega, by omega⟩
  have w8 : wrap64 (32 * (x.c + 1024)) = 32 * (x.c + 1024) := IntWalk.wrap64_in _ ⟨by omega, by omega⟩
  have w9 : wrap64 (x.b + 32 * (x.c + 1024)) = x.b + 32 * (x.c + 1024) := IntWalk.wrap64_in _ ⟨by omega, by omega⟩
  have w10 : wrap64 (65536 * x.p) = 65536 * x.p := IntWalk.wrap64_in _ ⟨by omega, by omega⟩
  have w11 : wrap64 (x.b + 32 * (x.c + 1024) + 65536 * x.p) = x.b + 32 * (x.c + 1024) + 65536 * x.p := IntWalk.wrap64_in _ ⟨by omega, by omega⟩
  have HE : Hid ((ints (wordsF x)).toArray = #[.int .i64 (x.op + 64 * x.k + 4096 * x.d + 131072 * x.a), .int .i64 (x.b + 32 * (x.c + 1024) + 65536 * x.p), .int .i64 x.n, .int .i64 x.m]) := Lib.hid rfl
  rw [HE.out]
  have hsz : (Tryz.prog.info? 65).map (·.size) = some 4 := by kernel_rfl
  clear o1 o2 k1 k2 d1 d2 a1 a2 b1 b2 c1 c2 p1 p2
  unfold Ins.cells
  go_enter Tryz.func24, Tryz.ntmps24
  go_wp2_with fail
  refine bodyPost_ret (v := .agg #[.int .i64 (x.op + 64 * x.k + 4096 * x.d + 131072 * x.a), .int .i64 (x.b + 32 * (x.c + 1024) + 65536 * x.p), .int .i64 x.n, .int .i64 x.m]) ?_ ?_ ?_
  · exact res_cell (p := 2) (ty := 65) (fn := Tryz.f24) rfl _ _ (w.heap.size + 1) 65 #[.int .i64 (x.op + 64 * x.k + 4096 * x.d + 131072 * x.a), .int .i64 (x.b + 32 * (x.c + 1024) + 65536 * x.p), .int .i64 x.n, .int .i64 x.m] _ rfl (by have := Blk.new (w.alloc (.cells #[.int .i64 x.op, .int .i64 x.k, .int .i64 x.d, .int .i64 x.a, .int .i64 x.b, .int .i64 x.c, .int .i64 x.p, .int .i64 x.n, .int .i64 x.m] 44)) 65 #[.int .i64 (x.op + 64 * x.k + 4096 * x.d + 131072 * x.a), .int .i64 (x.b + 32 * (x.c + 1024) + 65536 * x.p), .int .i64 x.n, .int .i64 x.m]; simpa using this) Tryz.underlying65 rfl hsz
  · rfl
  · exact ⟨rfl, ((Below.refl _ _).alloc (Nat.le_refl _) _).alloc (by simp) _⟩
theorem ints_wordsF (x : Ins) : ints (wordsF x) = [.int .i64 (x.op + 64 * x.k + 4096 * x.d + 131072 * x.a), .int .i64 (x.b + 32 * (x.c + 1024) + 65536 * x.p), .int .i64 x.n, .int .i64 x.m] := rfl
theorem encode_bad (m : Mach) (hm : m.ok = false) (w : World) (v : Value) : Calls Tryz.prog 9 #[m.val, v] w fun e w' => e = .returned (.tuple #[.slice none 0 0, .int .i64 9]) ∧ Below w.heap.size w w' := by
  have HCM := Lib.hid (fun W => check_bad m hm W v)
  have HB := Lib.hid (Blk.new w 27 m.cells)
  have hi5 : (Tryz.prog.info? 27).map (·.size) = some 5 := by kernel_rfl
  have HB0 := Lib.hid ((Below.refl w.heap.size w).alloc (Nat.le_refl _) (.cells m.cells 27))
  unfold Mach.val at HCM ⊢
  unfold Mach.cells at HCM HB HB0 ⊢
  go_enter Tryz.func9, Tryz.ntmps9
  go_wp2_with (refine wpList_load_blk rfl 27 _ rfl w.heap.size rfl 27 _ _ HB.out Tryz.underlying27 rfl hi5 ?_)
  refine (HCM.out _).mono ?_
  rintro e w1 ⟨rfl, hb1⟩
  have HB1 := Lib.hid (HB0.out.trans (hb1.mono HB0.out.size))
  clear hb1
  go_wp2_with fail
  go_ret2
  exact ⟨rfl, HB1.out⟩
set_option maxRecDepth 100000 in
set_option maxHeartbeats 8000000 in
theorem encode_any (m : Mach) (hm : m.ok = true) (w : World) {T : Nat → Prop} {v : Value} (xs : List Ins) (h : Own w T 44 9 v xs.length (insL xs)) (hc : CodeOk m xs) :
    Calls Tryz.prog 9 #[m.val, v] w fun e w' => ∃ v', e = .returned (.tuple #[v', .int .i64 0]) ∧ Own w' (w.heap.size ≤ ·) 3 1 v' (4 * xs.length) (ints (codeW xs)) ∧ Below w.heap.size w w' := by
  have hl := hc.len
  obtain ⟨i0, hi0, hz0, hz1, hz2⟩ := info_parts int_info
  have hmo := m.ok_out hm
  have HSM := Lib.hid (fun x hx => (hc.ins x hx).small hmo.2.1.2 hmo.2.2.2.2.2)
  have HB := Lib.hid (Blk.new w 27 m.cells)
  have hi5 : (Tryz.prog.info? 27).map (·.size) = some 5 := by kernel_rfl
  have hi9 : (Tryz.prog.info? 44).map (·.size) = some 9 := by kernel_rfl
  have HB0 := Lib.hid ((Below.refl w.heap.size w).alloc (Nat.le_refl _) (.cells m.cells 27))
  have HCM := Lib.hid (fun W (hb : Below w.heap.size w W) => check_any m hm W xs (h.fresh hb) hc)
  obtain ⟨A, c, rfl, -, -⟩ := h.shape
  have H := Lib.hid h
  obtain ⟨N, hN⟩ : ∃ N, N = xs.length := ⟨_, rfl⟩
  rw [← hN] at hl HCM ⊢
  unfold Mach.val at HCM ⊢
  unfold Mach.cells at HCM HB HB0 ⊢
  have HN := Lib.hid hN
  clear h hc hm hN hmo
  go_enter Tryz.func9, Tryz.ntmps9
  go_wp2_with (refine wpList_load_blk rfl 27 _ rfl w.heap.size rfl 27 _ _ HB.out Tryz.underlying27 rfl hi5 ?_)
  refine (HCM.out _ HB0.out).mono ?_
  rintro e w1 ⟨rfl, hb1⟩
  have HB1 := Lib.hid (HB0.out.trans (hb1.mono HB0.out.size))
  clear hb1 HB HB0 HCM
  go_wp2_with fail
  go_loopw [7, 19] (fun ov iv wr => ∃ i : Nat, i ≤ N ∧ iv = .int .i64 i ∧ Own wr (w.heap.size ≤ ·) 3 1 ov (4 * i) (ints (codeW (xs.take i))) ∧ Below w.heap.size w wr) (fun _ i _ => N - (intOf i).toNat)
  case atStart => exact ⟨0, by omega, rfl, Own.nil_ _ _ _ _, HB1.out⟩
  obtain ⟨i, hi, rfl, ho, hbr⟩ := hrel
  have HBR := Lib.hid hbr
  have HO := Lib.hid ho
  have zr := hbr.size
  obtain ⟨A3, c3, rfl, -, -⟩ := ho.shape
  clear hbr ho HB1
  by_cases hlt : i < N
  · have hix : i < xs.length := by rw [← HN.out]; exact hlt
    have hcode := H.out.fresh HBR.out
    obtain ⟨g, cap, hA, -, -, hgl, -⟩ := hcode.form (by omega)
    injection hA with hA1 hA2 hA3
    subst hA1 hA3
    obtain ⟨d0, d1, d2, d3, d4, d5, d6, d7, d8⟩ := hcode.ins i hix
    have hsm := HSM.out xs[i] (List.getElem_mem hix)
    have HST : Hid (ints (codeW (xs.take (i + 1))) = ints (codeW (xs.take i)) ++ ints (wordsF xs[i])) := Lib.hid (by rw [List.take_succ_eq_append_getElem hix, codeW_snoc]; simp [ints])
    obtain ⟨x, hx⟩ : ∃ x, x = xs[i] := ⟨_, rfl⟩
    rw [← hx] at d0 d1 d2 d3 d4 d5 d6 d7 d8 hsm HST
    have HWD := Lib.hid (fun W => words_any x hsm W)
    unfold Ins.cells at HWD
    have HBX := Lib.hid (HBR.out.alloc zr (.cells #[.int .i64 x.op, .int .i64 x.k, .int .i64 x.d, .int .i64 x.a, .int .i64 x.b, .int .i64 x.c, .int .i64 x.p, .int .i64 x.n, .int .i64 x.m] 44))
    have HOX := Lib.hid (HO.out.alloc (.cells #[.int .i64 x.op, .int .i64 x.k, .int .i64 x.d, .int .i64 x.a, .int .i64 x.b, .int .i64 x.c, .int .i64 x.p, .int .i64 x.n, .int .i64 x.m] 44))
    clear hcode hx hsm
    go_wp2_with fail
    refine (HWD.out _).mono ?_
    rintro e w3 ⟨rfl, hb3⟩
    have HO3 := Lib.hid (HOX.out.fresh hb3)
    have HB3 := Lib.hid (HBX.out.trans (hb3.mono HBX.out.size))
    have z3 : w.heap.size ≤ w3.heap.size := HB3.out.size
    clear hb3 d0 d1 d2 d3 d4 d5 d6 d7 d8 HBX HOX HWD HO HBR
    rw [show (ints (wordsF x)).toArray = #[.int .i64 (x.op + 64 * x.k + 4096 * x.d + 131072 * x.a), .int .i64 (x.b + 32 * (x.c + 1024) + 65536 * x.p), .int .i64 x.n, .int .i64 x.m] from rfl]
    go_wp2_with (at_builtin; go_must (refine wpList_append_any _ rfl _ _ 22 rfl 3 i0 _ 1 8 Tryz.underlying22 hi0 hz0 hz1 hz2 rfl (by omega) (.slice A3 (4 * i) c3) (4 * i) _ rfl (HO3.out.alloc _) _ 4 4 _ rfl (reads_rowE w3 _ [.int .i64 (x.op + 64 * x.k + 4096 * x.d + 131072 * x.a), .int .i64 (x.b + 32 * (x.c + 1024) + 65536 * x.p), .int .i64 x.n, .int .i64 x.m] 1 4 rfl) (by intro u hu; simp at hu; rcases hu with rfl | rfl | rfl | rfl <;> rfl) (by unfold maxLen; omega) (by omega) ?_); intro v' w8 happ)
    obtain ⟨p1, p2, p3⟩ := happ
    have HP1 := Lib.hid p1
    have hvb : ∀ g, (Value.slice A3 (4 * i) c3).ownBlock = some g → w.heap.size ≤ g := fun g e => (HO3.out.2 g e)
    have HB8 := Lib.hid ((HB3.out.alloc z3 _).grown p2 (by simp; omega) (fun g e => hvb g e))
    clear p1 p2 p3
    go_wp2_with fail
    go_roundw
    case rel =>
      refine ⟨i + 1, by omega, by go_num, ?_, HB8.out⟩
      rw [HST.out, ints_wordsF]
      exact HP1.out.more fun g _ h => by
        rcases h with h | h
        · exact h
        · simp at h; omega
    case measure => simp [intOf]; omega
  · obtain rfl : i = N := by omega
    have ho := HO.out
    rw [HN.out, List.take_length, ← HN.out] at ho
    go_wp2_with fail
    go_ret2
    exact ⟨_, rfl, ho, HBR.out⟩
end Go.Proofs.YtpcejpcbkjnlkaaGreatDoor

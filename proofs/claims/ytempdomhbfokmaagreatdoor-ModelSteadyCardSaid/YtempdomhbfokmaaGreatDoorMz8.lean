/- attend. -/
import Derived.Test.YtempdomhbfokmaaGreatDoorMz7
namespace Go.Proofs.YtempdomhbfokmaaGreatDoor
open Go.RowKit

theorem zip_full (f : Int → Int → Int) (x y : List Int) (n : Nat) (hx : x.length = n) (hy : y.length = n) : List.zipWith f (x.take n) (y.take n) ++ x.drop n = List.zipWith f x y := by
  rw [List.take_of_length_le (by omega), List.take_of_length_le (by omega), List.drop_of_length_le (by omega), List.append_nil]
theorem Model.attH_word (m : Model) (es : List (List Int)) : inRange (-2147483648) 2147483647 (m.attH es) := by
  unfold Model.attH
  have key : ∀ (l : List (List Int × Int)) (o : List Int), inRange (-2147483648) 2147483647 o → inRange (-2147483648) 2147483647 (l.foldl (m.mixIn (maxF (m.atts es))) o) := by
    intro l
    induction l with
    | nil => exact fun _ h => h
    | cons x l ih =>
      intro o _
      rw [List.foldl_cons]
      refine ih _ fun z hz => ?_
      unfold Model.mixIn at hz
      obtain ⟨n, hn, rfl⟩ := List.getElem_of_mem hz
      rw [List.getElem_zipWith]
      exact wr_range _
  exact key _ _ fun z hz => by have := List.eq_of_mem_replicate hz; omega
theorem map_step (f : Int → Int) (x : List Int) (k : Nat) (hx : k < x.length) : ((x.take k).map f ++ x.drop k).set k (f x[k]) = (x.take (k + 1)).map f ++ x.drop (k + 1) := by
  have hl : ((x.take k).map f).length = k := by simp; omega
  rw [List.set_append_right _ _ (by omega), hl, Nat.sub_self, List.drop_eq_getElem_cons hx, List.set_cons_zero, List.take_succ_eq_append_getElem hx, List.map_append]
  simp
theorem map_get (f : Int → Int) (x : List Int) (k : Nat) (hx : k < x.length) : (ints ((x.take k).map f ++ x.drop k))[k]? = some (.int .i64 x[k]) := by
  have hl : ((x.take k).map f).length = k := by simp; omega
  simp only [ints, List.map_append]
  rw [List.getElem?_append_right (by rw [List.length_map, hl]; exact Nat.le_refl _), List.length_map, hl, Nat.sub_self]
  simp [hx]
theorem mul_word (a x : Int) (h1 : 0 ≤ a) (h2 : a ≤ 1000) (hx : word x) : -(1000 * 2147483648) ≤ a * x ∧ a * x ≤ 1000 * 2147483648 := by
  obtain ⟨x1, x2⟩ := hx
  constructor
  · have e1 : a * (-2147483648) ≤ a * x := Int.mul_le_mul_of_nonneg_left x1 h1
    omega
  · have e1 : a * x ≤ a * 2147483647 := Int.mul_le_mul_of_nonneg_left x2 h1
    omega

set_option maxRecDepth 100000 in
set_option maxHeartbeats 2000000 in
theorem attend_any (w : World) (T T' T2 : Nat → Prop) (M : Model) (v4 v5 v6 v7 v8 v9 v10 : Value) (h : MSl w T M v4 v5 v6 v7 v8 v9 v10) (hM : M.Ok) (hkind : M.kind = 1)
    (E : Option Addr) (ce : Nat) (vs : List Value) (es : List (List Int)) (hE : Reads w T' 1 E es.length vs) (hR : Rows w T2 vs es) (hes : goodEntries M es) (hn1 : 1 ≤ es.length) (hn2 : es.length ≤ 64) :
    Calls Tryz.prog 95 #[.agg #[.int .i64 M.kind, .int .i64 M.vocab, .int .i64 M.width, .int .i64 M.top, v4, v5, v6, v7, v8, v9, v10], .slice E es.length ce] w (RetFresh w 3 1 M.width (ints (M.attend es))) := by
  obtain ⟨hw1, hw2⟩ := hM.width
  replace h := h.old
  replace hR := hR.old
  replace hE := hE.old
  clear T T' T2
  have hlen : ∀ e ∈ es, e.length = 3 * M.width := fun e he => by have := (hes e he).1; unfold Model.len at this; rw [if_pos hkind] at this; exact this
  obtain ⟨A4, c4, rfl⟩ := h.cuts.len
  obtain ⟨A9, c9, rfl⟩ := h.soft.len
  have hcut : 3 < M.cuts.length := by have := hM.lcuts; omega
  -- the last entry
  have hl0 : es.length - 1 < es.length := by omega
  obtain ⟨vl, hvl, Al, cl, rfl, rl, l1, l2, l3⟩ := hR.2 _ hl0
  have hll := hlen _ (List.getElem_mem hl0)
  obtain ⟨-, hlw⟩ := hes _ (List.getElem_mem hl0)
  obtain ⟨E', u, e, hlt, -, hu, hcl⟩ := hE.at_ hl0
  subst e
  rw [hvl] at hu
  injection hu with hu
  subst hu
  have HLE : RowKit.Hid (M.last es = (es[es.length - 1]).drop (2 * M.width)) := by show _ = _; unfold Model.last; simp [List.getD, hl0]
  have HL0 := Lib.hid hll
  have HK := Lib.hid hkind
  have HLN := Lib.hid hlen
  have HES := Lib.hid hes
  rw [hll] at hcl rl l1
  have hne : ¬ cl = 2 * M.width := by omega
  have hcl2 : ∀ o, (w.alloc o).cell? (E'.add (es.length - 1)) = some (.slice Al (3 * M.width) cl) := fun o => (World.cell?_alloc_lt w o _ (by rw [block_of_add]; exact hlt)).trans hcl
  clear hkind hlen hll hes hvl l3 hcl
  go_enter Tryz.func95, Tryz.ntmps95
  go_wp2_with fail
  have kw := Blk.new w 35 #[.int .i64 M.kind, .int .i64 M.vocab, .int .i64 M.width, .int .i64 M.top, .slice A4 M.cuts.length c4, v5, v6, v7, v8, .slice A9 M.soft.length c9, v10]
  have hm1 := h.alloc (.cells #[.int .i64 M.kind, .int .i64 M.vocab, .int .i64 M.width, .int .i64 M.top, .slice A4 M.cuts.length c4, v5, v6, v7, v8, .slice A9 M.soft.length c9, v10] 35)
  have hE1 := hE.alloc (.cells #[.int .i64 M.kind, .int .i64 M.vocab, .int .i64 M.width, .int .i64 M.top, .slice A4 M.cuts.length c4, v5, v6, v7, v8, .slice A9 M.soft.length c9, v10] 35)
  have hR1 := hR.alloc (.cells #[.int .i64 M.kind, .int .i64 M.vocab, .int .i64 M.width, .int .i64 M.top, .slice A4 M.cuts.length c4, v5, v6, v7, v8, .slice A9 M.soft.length c9, v10] 35)
  have rl1 := rl.alloc (.cells #[.int .i64 M.kind, .int .i64 M.vocab, .int .i64 M.width, .int .i64 M.top, .slice A4 M.cuts.length c4, v5, v6, v7, v8, .slice A9 M.soft.length c9, v10] 35)
  have b1 := (Below.refl w.heap.size w).alloc (Nat.le_refl _) (.cells #[.int .i64 M.kind, .int .i64 M.vocab, .int .i64 M.width, .int .i64 M.top, .slice A4 M.cuts.length c4, v5, v6, v7, v8, .slice A9 M.soft.length c9, v10] 35)
  have z1 := kw.lt
  generalize w.alloc (.cells #[.int .i64 M.kind, .int .i64 M.vocab, .int .i64 M.width, .int .i64 M.top, .slice A4 M.cuts.length c4, v5, v6, v7, v8, .slice A9 M.soft.length c9, v10] 35) = w1 at *
  have hlast : Slc w1 (· < w.heap.size) (.slice (Al.map fun x => x.add (2 * M.width)) (3 * M.width - 2 * M.width) (cl - 2 * M.width)) (M.last es) := by
    have rl2 : Reads w1 (· < w.heap.size) 1 Al (es[es.length - 1]).length (ints es[es.length - 1]) := by rw [HL0.out]; exact rl1
    have := slc_cut rl2 (by rw [HL0.out]; exact l1) l2 (fun ha => by
      exfalso
      obtain ⟨ad, e, -⟩ := rl2.2 (by rw [HL0.out]; omega)
      rw [ha] at e; cases e) (2 * M.width) (3 * M.width - 2 * M.width) (by rw [HL0.out]; omega)
    rw [if_neg hne, List.take_of_length_le (by rw [List.length_drop, HL0.out]; exact Nat.le_refl _), ← HLE.out] at this
    exact this
  have hlastl : (M.last es).length = M.width := by rw [HLE.out, List.length_drop, HL0.out]; omega
  have hlastw : inRange (-2147483648) 2147483647 (M.last es) := by rw [HLE.out]; exact fun z hz => hlw z (List.mem_of_mem_drop hz)
  have HLL := Lib.hid hlastl
  generalize Value.slice (Al.map fun x => x.add (2 * M.width)) (3 * M.width - 2 * M.width) (cl - 2 * M.width) = vlast at *
  clear hlastl rl1 rl hne hlw hcl2 HLE HL0 hl0 l1 l2 hR hE h
  have kc := kw.cell 4
  obtain ⟨-, ad4, rfl, cc1⟩ := hm1.cuts.at_ 1 (by omega)
  obtain ⟨cu1, cu2⟩ := hM.cuts _ (List.getElem_mem (show 1 < M.cuts.length by omega))
  have hcutE : M.cuts[1] = M.cut 1 := by simp [Model.cut, List.getD, show 1 < M.cuts.length by omega]
  rw [hcutE] at cc1 cu1 cu2
  have cc1' : w1.cell? ⟨ad4.block, ad4.off + 1, none⟩ = some (.int .i64 (M.cut 1)) := by simpa [Addr.add] using cc1
  have hb4 : ad4.block < w.heap.size := hm1.cuts.blk (k := 1) (by omega)
  obtain ⟨i0, hi, hz0, hz1, hz2⟩ := info_parts int_info
  go_loopw [7, 31] (fun v i wr => ∃ k : Nat, k ≤ es.length ∧ i = .int .i64 k ∧ Own wr (fun g => w1.heap.size ≤ g) 3 1 v k (ints ((es.take k).map (M.att es))) ∧ Below w1.heap.size w1 wr) (fun _ i _ => es.length - (intOf i).toNat)
  case atStart => exact ⟨0, by omega, rfl, by simpa [ints] using Own.nil_ w1 (fun g => w1.heap.size ≤ g) 3 1, Below.refl _ _⟩
  obtain ⟨k, hk, rfl, ho, hb⟩ := hrel
  by_cases hlt1 : k < es.length
  · obtain ⟨E'', u, e, hltE, -, hu, hck⟩ := (hE1.fresh hb).at_ hlt1
    injection e with e
    subst e
    obtain ⟨vk, hvk, Ak, ck, rfl, rk, l1, l2, l3⟩ := (hR1.fresh hb).2 k hlt1
    rw [hvk] at hu
    injection hu with hu
    subst hu
    have hkl := HLN.out _ (List.getElem_mem hlt1)
    obtain ⟨-, hkw⟩ := HES.out _ (List.getElem_mem hlt1)
    have hsk : Slc wr (· < w.heap.size) (.slice Ak M.width ck) ((es[k]).take M.width) := by
      refine ⟨Ak, ck, by rw [List.length_take, hkl, Nat.min_eq_left (by omega)], ?_, by rw [List.length_take, hkl]; omega, l2, fun ha => ?_⟩
      · have := rk.take (k := M.width) (by omega)
        rw [List.length_take, hkl, Nat.min_eq_left (by omega)]
        simpa [ints] using this
      · obtain ⟨ad, e, -⟩ := rk.2 (by omega)
        rw [ha] at e; cases e
    have hsl : ((es[k]).take M.width).length = M.width := by rw [List.length_take, hkl]; omega
    have hsw : inRange (-4294967296) 4294967296 ((es[k]).take M.width) := fun z hz => by have := hkw z (List.mem_of_mem_take hz); omega
    rw [hkl] at hck l1
    have hdw := dotF_word ((es[k]).take M.width) (M.last es)
    obtain ⟨dw1, dw2⟩ := hdw
    have HSL := Lib.hid hsl
    have hlr := hlast.below hb (fun _ h => by omega)
    have kc2 : wr.cell? ⟨w.heap.size, 4, none⟩ = some (.slice (some ad4) M.cuts.length c4) := (hb.cell (p := ⟨w.heap.size, 4, none⟩) z1).trans kc
    have cc2 : wr.cell? ⟨ad4.block, ad4.off + 1, none⟩ = some (.int .i64 (M.cut 1)) := (hb.cell (p := ⟨ad4.block, ad4.off + 1, none⟩) (by simp; omega)).trans cc1'
    have i1 : (1 : Int) < M.cuts.length := by omega
    have i2 : (M.width : Int) ≤ ck := by omega
    have i3 : (0 : Int) ≤ M.width := by omega
    have hwz := hb.size
    have hne1 : u7.ownBlock ≠ some w.heap.size := fun e => by have := ho.2 _ e; simp at this; omega
    have hne2 : u7.ownBlock ≠ some ad4.block := fun e => by have := ho.2 _ e; simp at this; omega
    clear hkl hsl hvk l3
    go_wp2_with fail
    go_region_held3 (fun w' => w'.cell? ⟨w.heap.size, 4, none⟩ = some (.slice (some ad4) M.cuts.length c4) ∧ w'.cell? ⟨ad4.block, ad4.off + 1, none⟩ = some (.int .i64 (M.cut 1))) (go_keep)
      (first
        | (go_at_call 67; refine (dot_any _ _ _ _ _ _ _ hsk.drew hlr.drew (by rw [HSL.out, HLL.out]) hsw hlastw).mono ?_; rintro e w' ⟨rfl, nd, rfl⟩)
        | (go_at_call 66; refine (shift_any _ _ _ cu1 cu2 (by omega)).mono ?_; rintro e w' ⟨rfl, rfl⟩)
        | (refine step_append_any _ (by rfl) _ _ 22 (by rfl) 3 i0 _ 1 8 Tryz.underlying22 hi hz0 hz1 hz2 rfl (by omega) u7 k _ (by rfl) ((ho.drew.drewN nd).alloc _) _ 1 1 _ (by rfl) (reads_new _ _ [_] 1 rfl) (ints_one _) (by unfold maxLen; omega) (by omega) ?_; intro v' w' happ; have f0 := far_cell happ.2.1 ⟨w.heap.size, 4, none⟩ (Nat.lt_of_lt_of_le z1 hwz) hne1; have f1 := far_cell happ.2.1 ⟨ad4.block, ad4.off + 1, none⟩ (by simp; omega) hne2))
    go_wp2_with fail
    go_roundw
    case rel =>
      have hg := grown_after (wr := wr) (W1 := wr) (n := 1 + nd) (Below.refl _ _) happ.2.1
      refine ⟨k + 1, by omega, by go_num, ?_, ⟨hg.os.trans hb.os, hg.tape.trans hb.tape, hg.output.trans hb.output, Nat.le_trans hb.size hg.size, fun q hq => (hg.block q (Nat.lt_of_lt_of_le hq hb.size) (fun e => by have := ho.2 _ e.symm; simp at this; omega)).trans (hb.block q hq)⟩⟩
      have := happ.1.more (T' := fun g => w1.heap.size ≤ g) fun g _ hg => by
        rcases hg with hg | hg
        · exact hg
        · simp at hg; omega
      rw [List.take_succ_eq_append_getElem hlt1, List.map_append]
      simpa [ints, Model.att] using this
    case measure => simp [intOf]; omega
  · obtain rfl : k = es.length := by omega
    have e0 : (es.take es.length).map (M.att es) = M.atts es := by rw [List.take_length]; rfl
    rw [e0] at ho
    have hsl : (M.atts es).length = es.length := by simp [Model.atts]
    have hsw : inRange (-2147483648) 2147483647 (M.atts es) := by
      intro z hz
      obtain ⟨e, he, rfl⟩ := List.mem_map.1 hz
      exact shiftF_word _ _ cu1 cu2 (dotF_word _ _)
    obtain ⟨A7, c7, hu7, -⟩ := ho.slc
    rw [hsl] at hu7
    subst hu7
    have hss := ho.slc.old
    have HSL := Lib.hid hsl
    clear e0 hsl hb4 cc1' cc1 cu1 cu2 hcutE kc
    go_wp2_with fail
    refine (max_any _ _ _ _ hss (by rw [HSL.out]; omega) (by rw [HSL.out]; omega)).mono ?_
    rintro e w' ⟨rfl, rfl⟩
    go_wp2_with (at_make; refine wpList_make_ints _ rfl _ _ rfl _ _ M.width rfl rfl rfl rfl (by omega) ?_; intro w2 hown hb2 hz2')
    have hwz := hb.size
    have b2 : Below w1.heap.size w1 w2 := hb.trans (hb2.mono hwz)
    have hm2 := hm1.below b2 (fun _ h => by omega)
    have hE2 := hE1.fresh b2
    have hR2 := hR1.fresh b2
    have kw2 := kw.below b2 z1
    have hss2 := hss.fresh hb2
    obtain ⟨G, hG⟩ : ∃ G, G = wr.heap.size := ⟨_, rfl⟩
    rw [← hG] at hss2 hown hz2' hwz ⊢
    clear hG hss ho hb hb2 hm1 hE1 hR1 kw hlast hlastw HLL hlt1
    have k9 := kw2.cell 9
    go_loopw [55] (fun i wr => ∃ k : Nat, k ≤ es.length ∧ i = .int .i64 k ∧ Own wr (fun g => g = G) 3 1 (.slice (some ⟨G, 0, none⟩) M.width M.width) M.width (ints (M.mixTo es k)) ∧ Keeps (· = G) w2 wr) (fun i _ => es.length - (intOf i).toNat)
    case atStart => exact ⟨0, by omega, rfl, by simpa [Model.mixTo] using hown, Keeps.refl _ _⟩
    obtain ⟨k, hk, rfl, ho, hkp⟩ := hrel
    by_cases hlt1 : k < es.length
    · have hEr := hE2.keeps hkp (fun i hi => by omega)
      have hRr := hR2.keeps hkp (fun i hi => by omega)
      have hmr := hm2.keeps hkp (fun i hi => by omega)
      have hsr := hss2.keeps hkp (fun i hi => by omega)
      have kr : wr.cell? ⟨w.heap.size, 9, none⟩ = some (.slice A9 M.soft.length c9) := (hkp.cell (p := ⟨w.heap.size, 9, none⟩) (by have := kw2.lt; exact this) (by simp; omega)).trans k9
      obtain ⟨E'', u, e, -, -, hu, hck⟩ := hEr.at_ hlt1
      injection e with e
      subst e
      obtain ⟨vk, hvk, Ak, ck, rfl, rk, l1, l2, l3⟩ := hRr.2 k hlt1
      rw [hvk] at hu
      injection hu with hu
      subst hu
      have hkl := HLN.out _ (List.getElem_mem hlt1)
      obtain ⟨-, hkw⟩ := HES.out _ (List.getElem_mem hlt1)
      have hatl : k < (M.atts es).length := by rw [HSL.out]; exact hlt1
      obtain ⟨-, as7, e7, csk⟩ := hsr.at_ k hatl
      subst e7
      have hy := hsw _ (List.getElem_mem hatl)
      have hmx := maxF_word _ hsw
      have HST := Lib.hid (M.mixTo_step es k hlt1)
      obtain ⟨y, hy'⟩ : ∃ y, y = (M.atts es)[k] := ⟨_, rfl⟩
      rw [← hy'] at csk hy HST
      generalize maxF (M.atts es) = mx at *
      clear hvk l3
      rw [hkl] at hck l1 rk
      have hvl : ((es[k].drop M.width).take M.width).length = M.width := by rw [List.length_take, List.length_drop, hkl]; omega
      have hvw : inRange (-2147483648) 2147483647 ((es[k].drop M.width).take M.width) := fun z hz => hkw z (List.mem_of_mem_drop (List.mem_of_mem_take hz))
      have hne : ¬ ck = M.width := by omega
      obtain ⟨ak, rfl⟩ : ∃ ak, Ak = some ak := by
        obtain ⟨ad, e, -⟩ := rk.2 (by omega)
        exact ⟨ad, e⟩
      have hsv : Slc wr (· < w.heap.size) (.slice (some (ak.add M.width)) (2 * M.width - M.width) (ck - M.width)) ((es[k].drop M.width).take M.width) := by
        rw [show 2 * M.width - M.width = M.width from by omega]
        have rk2 : Reads wr (· < w.heap.size) 1 (some ak) (es[k]).length (ints es[k]) := by rw [hkl]; exact rk
        have := slc_cut rk2 (by rw [hkl]; exact l1) l2 (fun ha => by cases ha) M.width M.width (by rw [hkl]; omega)
        rw [if_neg hne] at this
        exact this
      have HKL := Lib.hid hkl
      have HVL := Lib.hid hvl
      clear hkl hvl rk
      have i1 : (M.width : Int) ≤ 2 * M.width := by omega
      have i2 : (2 : Int) * M.width ≤ ck := by omega
      go_wp2_with fail
      refine attend_r14 wr _ M hM _ hmr.soft w.heap.size kr as7 es.length c7 k y mx hlt1 csk hmx hy _ _ _ _ _ _ _ _ _ _ _ _ _ _ _ _ _ _ _ _ _ _ _ _ _ _ _ _ _ _ _ _ _ _ _ _ _ _ _ _ _ _ _ _ _ _ _ _ _ _ _ _ _ _ _ _ _ _ _ _ _ _ _ _ _ _ _ _ _ _ _ _ _ _ _ _ _ _ _ _ _ _ _ _ _ _ _ _ _ _ _ _ _ _ _ _ _ _ _ _ _ _ _ _ _ _ _ _ _ _ _ _ _ _ _ _ _ _ _ ?_
      intro nd y0 y1 y2 y3 y4 y5 y6 y7 y8 y9 y10 y11 y12 y13 y14 y15 y16
      have how := ho.drewN nd
      have hkpw := hkp.drewN nd
      have hsvw := hsv.drewN nd
      have hwtr : 0 ≤ M.softOf mx y ∧ M.softOf mx y ≤ 1000 := by
        unfold Model.softOf
        obtain ⟨s1, s2⟩ := hM.lsoft
        have hlt : min (max (Go.Proofs.YtempdomhbfokmaaGreatDoor.wr (mx - y)) 0).toNat (M.soft.length - 1) < M.soft.length := by omega
        have := hM.soft _ (List.getElem_mem hlt)
        simpa [List.getD, hlt] using this
      obtain ⟨wt, hwt⟩ : ∃ wt, wt = M.softOf mx y := ⟨_, rfl⟩
      rw [← hwt] at hwtr ⊢
      have HWT := Lib.hid hwt
      clear hwt
      obtain ⟨wt1, wt2⟩ := hwtr
      generalize wr.drewN nd = w4 at *
      go_wp2_with fail
      have hHl : (M.mixTo es k).length = M.width := M.mixTo_length es HLN.out k
      have HHL := Lib.hid hHl
      clear hHl
      obtain ⟨wo, rfl⟩ : ∃ wo : World, wo = wr := ⟨_, rfl⟩
      go_loopw [83] (fun i wr => ∃ o : Nat, o ≤ M.width ∧ i = .int .i64 o ∧ Own wr (fun g => g = G) 3 1 (.slice (some ⟨G, 0, none⟩) M.width M.width) M.width (ints (List.zipWith (fun a v => Go.Proofs.YtempdomhbfokmaaGreatDoor.wr (a + Go.Proofs.YtempdomhbfokmaaGreatDoor.wr (wt * v))) ((M.mixTo es k).take o) (((es[k].drop M.width).take M.width).take o) ++ (M.mixTo es k).drop o)) ∧ Keeps (· = G) w4 wr) (fun i _ => M.width - (intOf i).toNat)
      case atStart => exact ⟨0, by omega, rfl, by simpa using how, Keeps.refl _ _⟩
      obtain ⟨o, ho', rfl, hoo, hkpo⟩ := hrel
      by_cases hlt3 : o < M.width
      · have hsvo := hsvw.keeps hkpo (fun i hi => by omega)
        obtain ⟨-, adv, e, cv⟩ := hsvo.at_ o (by rw [HVL.out]; exact hlt3)
        injection e with e
        subst e
        have hx := hvw _ (List.getElem_mem (show o < ((es[k].drop M.width).take M.width).length by rw [HVL.out]; exact hlt3))
        have hcr := hoo.get o hlt3
        have hfr := hoo.unfrozen o
        rw [zip_get _ _ _ o (by rw [HHL.out]; exact hlt3) (by rw [HVL.out]; exact hlt3)] at hcr
        have HZ := Lib.hid (zip_step (fun a v => Go.Proofs.YtempdomhbfokmaaGreatDoor.wr (a + Go.Proofs.YtempdomhbfokmaaGreatDoor.wr (wt * v))) (M.mixTo es k) ((es[k].drop M.width).take M.width) o (by rw [HHL.out]; exact hlt3) (by rw [HVL.out]; exact hlt3))
        obtain ⟨hv, hhv⟩ : ∃ hv, hv = (M.mixTo es k)[o]'(by rw [HHL.out]; exact hlt3) := ⟨_, rfl⟩
        obtain ⟨xv, hxv⟩ : ∃ xv, xv = ((es[k].drop M.width).take M.width)[o]'(by rw [HVL.out]; exact hlt3) := ⟨_, rfl⟩
        rw [← hhv] at hcr HZ
        rw [← hxv] at cv hx HZ
        clear hhv hxv
        obtain ⟨x1, x2⟩ := hx
        obtain ⟨p2, p1⟩ := mul_word wt xv wt1 wt2 ⟨x1, x2⟩
        have i4 : (o : Int) < M.width := by omega
        go_wp2_with fail
        go_region_with ((go_at_call 65; refine (wrap_any _ _).mono ?_; rintro e w' ⟨rfl, rfl⟩))
        all_goals go_wp2_with fail
        all_goals
          go_roundw
          case rel =>
            refine ⟨o + 1, by omega, by go_num, ?_, (Keeps.setCell hkpo (fun _ => rfl) _).drew⟩
            have := (hoo.set o hlt3 (.int .i64 (Go.Proofs.YtempdomhbfokmaaGreatDoor.wr (hv + Go.Proofs.YtempdomhbfokmaaGreatDoor.wr (wt * xv))))).drew
            rw [← HZ.out, wr_wrap64]
            simpa [ints, List.map_set] using this
          case measure => simp [intOf]; omega
      · obtain rfl : o = M.width := by omega
        have e3 : List.zipWith (fun a v => Go.Proofs.YtempdomhbfokmaaGreatDoor.wr (a + Go.Proofs.YtempdomhbfokmaaGreatDoor.wr (wt * v))) ((M.mixTo es k).take M.width) (((es[k].drop M.width).take M.width).take M.width) ++ (M.mixTo es k).drop M.width = M.mixTo es (k + 1) := by
          rw [HST.out, zip_full _ _ _ M.width HHL.out HVL.out]
          unfold Model.mixIn
          rw [← HWT.out]
        rw [e3] at hoo
        clear e3
        go_wp2_with fail
        go_roundw
        case rel => exact ⟨k + 1, by omega, by go_num, hoo, hkpw.tr hkpo⟩
        case measure => simp [intOf]; omega
    · obtain rfl : k = es.length := by omega
      have e4 : M.mixTo es es.length = M.attH es := by unfold Model.mixTo Model.attH; rw [List.take_of_length_le (by simp [Model.atts])]
      rw [e4] at ho
      have hHl : (M.attH es).length = M.width := by rw [← e4]; exact M.mixTo_length es HLN.out _
      have hHw := M.attH_word es
      have hmr := hm2.keeps hkp (fun i hi => by omega)
      clear e4
      have HHL := Lib.hid hHl
      clear hHl
      obtain ⟨-, ad4', e, cc1⟩ := hmr.cuts.at_ 2 (by omega)
      injection e with e
      subst e
      obtain ⟨cu1, cu2⟩ := hM.cuts _ (List.getElem_mem (show 2 < M.cuts.length by omega))
      have hcutE : M.cuts[2] = M.cut 2 := by simp [Model.cut, List.getD, show 2 < M.cuts.length by omega]
      rw [hcutE] at cc1 cu1 cu2
      have cc2 : wr.cell? ⟨ad4.block, ad4.off + 2, none⟩ = some (.int .i64 (M.cut 2)) := by simpa [Addr.add] using cc1
      have hb4 : ad4.block < w.heap.size := hmr.cuts.blk (k := 2) (by omega)
      have hkw4 : wr.cell? ⟨w.heap.size, 4, none⟩ = some (.slice (some ad4) M.cuts.length c4) := (hkp.cell (p := ⟨w.heap.size, 4, none⟩) (by have := kw2.lt; exact this) (by simp; omega)).trans (kw2.cell 4)
      have hbw : Below w.heap.size w wr := (b1.trans (b2.mono (by omega))).trans ⟨hkp.os, hkp.tape, hkp.output, hkp.size, fun q hq => hkp.block q (by have := b2.size; omega) (by omega)⟩
      have hz5 : w.heap.size < wr.heap.size := by have := hkp.size; have := b2.size; omega
      have i4 : 2 < M.cuts.length := by omega
      clear hcutE cc1 hmr hkp hE2 hR2 hm2 kw2 hss2 hown k9
      go_wp2_with fail
      obtain ⟨wo, rfl⟩ : ∃ wo : World, wo = wr := ⟨_, rfl⟩
      go_loopw [105] (fun i wr => ∃ o : Nat, o ≤ M.width ∧ i = .int .i64 o ∧ Own wr (fun g => g = G) 3 1 (.slice (some ⟨G, 0, none⟩) M.width M.width) M.width (ints (((M.attH es).take o).map (fun x => shiftF x (M.cut 2)) ++ (M.attH es).drop o)) ∧ Keeps (· = G) wo wr) (fun i _ => M.width - (intOf i).toNat)
      case atStart => exact ⟨0, by omega, rfl, by simpa using ho, Keeps.refl _ _⟩
      obtain ⟨o, ho', rfl, hoo, hkpo⟩ := hrel
      by_cases hlt3 : o < M.width
      · have hcr := hoo.get o hlt3
        have hfr := hoo.unfrozen o
        rw [map_get _ _ o (by rw [HHL.out]; exact hlt3)] at hcr
        have HZ := Lib.hid (map_step (fun x => shiftF x (M.cut 2)) (M.attH es) o (by rw [HHL.out]; exact hlt3))
        have hx := hHw _ (List.getElem_mem (show o < (M.attH es).length by rw [HHL.out]; exact hlt3))
        obtain ⟨xv, hxv⟩ : ∃ xv, xv = (M.attH es)[o]'(by rw [HHL.out]; exact hlt3) := ⟨_, rfl⟩
        rw [← hxv] at hcr hx HZ
        clear hxv
        obtain ⟨x1, x2⟩ := hx
        have f4 : wr.cell? ⟨w.heap.size, 4, none⟩ = some (.slice (some ad4) M.cuts.length c4) := (hkpo.cell (p := ⟨w.heap.size, 4, none⟩) hz5 (by simp; omega)).trans hkw4
        have f2 : wr.cell? ⟨ad4.block, ad4.off + 2, none⟩ = some (.int .i64 (M.cut 2)) := (hkpo.cell (p := ⟨ad4.block, ad4.off + 2, none⟩) (by simp; omega) (by simp; omega)).trans cc2
        have i5 : (o : Int) < M.width := by omega
        go_wp2_with fail
        go_region_with ((go_at_call 66; refine (shift_any _ _ _ cu1 cu2 (by omega)).mono ?_; rintro e w' ⟨rfl, rfl⟩))
        all_goals go_wp2_with fail
        all_goals
          go_roundw
          case rel =>
            refine ⟨o + 1, by omega, by go_num, ?_, (Keeps.setCell hkpo (fun _ => rfl) _).drew⟩
            have := (hoo.set o hlt3 (.int .i64 (shiftF xv (M.cut 2)))).drew
            rw [← HZ.out]
            simpa [ints, List.map_set] using this
          case measure => simp [intOf]; omega
      · obtain rfl : o = M.width := by omega
        have e5 : ((M.attH es).take M.width).map (fun x => shiftF x (M.cut 2)) ++ (M.attH es).drop M.width = M.attend es := by
          rw [List.take_of_length_le (by rw [HHL.out]; exact Nat.le_refl _), List.drop_of_length_le (by rw [HHL.out]; exact Nat.le_refl _), List.append_nil]
          rfl
        rw [e5] at hoo
        clear e5
        go_wp2_with fail
        go_ret
        exact ⟨_, rfl, hoo.more fun g _ hg => by omega, hbw.trans ⟨hkpo.os, hkpo.tape, hkpo.output, hkpo.size, fun q hq => hkpo.block q (Nat.lt_of_lt_of_le hq hbw.size) (show ¬ q = G by omega)⟩⟩
end Go.Proofs.YtempdomhbfokmaaGreatDoor

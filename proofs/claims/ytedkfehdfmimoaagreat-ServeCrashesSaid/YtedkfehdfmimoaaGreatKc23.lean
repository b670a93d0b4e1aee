/- next. work. What compute, next, work leave. What work and a tick leave. full, Now, Synced, Sync. Tick. acceptable. -/
import Derived.Test.YtedkfehdfmimoaaGreatKc22
import Derived.Test.YtedkfehdfmimoaaGreatKc21
import Derived.Deep.LoopGhost
import Derived.Test.YtedkfehdfmimoaaGreatKc13
namespace Go.Proofs.YtedkfehdfmimoaaGreat
open Go.RowKit

theorem ints_info : (Tryz.prog.info? 22).map (fun i => (i.zero, i.size, i.bytes)) = some (some (.slice none 0 0), 1, 24) := by kernel_rfl
theorem entriesOf_length (M : Model) (l : List Int) : (entriesOf M l).length = l.length := by simp [entriesOf]
theorem entriesOf_take (M : Model) (l : List Int) (k : Nat) (h : k < l.length) : (entriesOf M l).take (k + 1) = (entriesOf M l).take k ++ [M.entry (l[k]).toNat k] := by
  rw [List.take_add_one]
  congr 1
  unfold entriesOf
  rw [List.getElem?_map, List.getElem?_zipIdx, List.getElem?_eq_getElem h]
  simp
theorem entriesOf_good (M : Model) (hM : M.Ok) (hk : M.kind = 1) (l : List Int) : goodEntries M (entriesOf M l) := by
  intro e he
  obtain ⟨x, -, rfl⟩ := List.mem_map.1 he
  exact M.entry_good hM hk _ _
/-- the model's cells in the server's block -/
theorem Rep.mcells {w : World} {own : Nat → Slot} {P : Ptrs} {s : Srv} (h : Rep w own P s) :
    w.cell? ⟨P.sa, 0, none⟩ = some (.int .i64 s.M.kind) ∧ w.cell? ⟨P.sa, 1, none⟩ = some (.int .i64 s.M.vocab) ∧ w.cell? ⟨P.sa, 2, none⟩ = some (.int .i64 s.M.width) ∧ w.cell? ⟨P.sa, 3, none⟩ = some (.int .i64 s.M.top) ∧
    w.cell? ⟨P.sa, 4, none⟩ = some P.v4 ∧ w.cell? ⟨P.sa, 5, none⟩ = some P.v5 ∧ w.cell? ⟨P.sa, 6, none⟩ = some P.v6 ∧ w.cell? ⟨P.sa, 7, none⟩ = some P.v7 ∧ w.cell? ⟨P.sa, 8, none⟩ = some P.v8 ∧ w.cell? ⟨P.sa, 9, none⟩ = some P.v9 ∧ w.cell? ⟨P.sa, 10, none⟩ = some P.v10 :=
  ⟨h.scell 0, h.scell 1, h.scell 2, h.scell 3, h.scell 4, h.scell 5, h.scell 6, h.scell 7, h.scell 8, h.scell 9, h.scell 10⟩
set_option maxRecDepth 100000 in
set_option maxHeartbeats 2000000 in
theorem next_serve (w : World) (own : Nat → Slot) (P : Ptrs) (s : Srv) (h : Rep w own P s) (hs : s.Ok) (i : Nat) (hi : i < s.reqs.length) (m : Nat) (hm : s.reqs.length ≤ m) (hyet : (s.req i).ended = false) :
    Calls Tryz.prog 72 #[.pointer (some ⟨P.sa, 0, none⟩), .pointer (some ⟨P.rb i, 0, none⟩)] w (RepRes w own P m (s.next i)) := by
  have hir := s.req_get i hi
  have hok := hs.reqs i hi
  have hq := h.req i hi
  have hri : s.reqs[i] = s.req i := by rw [List.getElem?_eq_getElem hi] at hir; injection hir
  rw [hri] at hq
  obtain ⟨AT, cT, hvT, hcT1, hcT2⟩ := hq.tokens.shape
  have c5 : w.cell? ⟨P.rb i, 5, none⟩ = some (.slice AT (s.req i).tokens.length cT) := by rw [← hvT]; exact h.rcell i _ hir 5
  have htk := hq.tokens
  rw [hvT] at htk
  have htr := htk.reads
  obtain ⟨n, hn⟩ : ∃ n, n = (s.req i).tokens.length := ⟨_, rfl⟩
  have hn64 := hok.tok64
  rw [← hn] at c5 htr hcT1 hn64
  have HN := Lib.hid hn
  have HVT := Lib.hid hvT
  have HTR := Lib.hid htr
  have H := Lib.hid h
  have HS := Lib.hid hs
  have HI := Lib.hid hi
  have HM := Lib.hid hm
  have HOK := Lib.hid hok
  have HIR := Lib.hid hir
  have HYET := Lib.hid hyet
  have HNX : Hid (s.next i = if nextTok s.M (s.req i) = 0 ∨ ((s.req i).made : Int) + 1 = (s.req i).most then (s.made1 i).end_ i 0 else s.made1 i) := Lib.hid rfl
  obtain ⟨i0, hi0, hz0, hz1, hz2⟩ := info_parts ints_info
  have zsa := h.server.lt
  have zrb := hq.blk.lt
  clear hn hvT htr htk hir hok hq hri hs hm hyet h hi
  generalize s.next i = res at *
  go_enter Tryz.func72, Tryz.ntmps72
  go_wp2_with fail
  go_loopw [4, 16] (fun v x wr => ∃ (k : Nat) (vs : List Value) (T2 : Nat → Prop), k ≤ n ∧ x = .int .i64 k ∧ Own wr (fun g => w.heap.size ≤ g) 22 1 v k vs ∧ Rows wr T2 vs ((entriesOf s.M (s.req i).tokens).take k) ∧ (∀ u ∈ vs, u.oneCell' = true) ∧ Below w.heap.size w wr ∧ (∀ g, v.ownBlock = some g → ¬ T2 g) ∧ (∀ g, T2 g → g < wr.heap.size)) (fun _ x _ => n - (intOf x).toNat)
  case atStart => exact ⟨0, [], fun _ => False, by omega, rfl, Own.nil_ _ _ _ _, Rows.nil_ _ _, by simp, Below.refl _ _, fun _ _ => id, fun _ => False.elim⟩
  obtain ⟨k, vs, T2, hk, rfl, ho, hrw, h1, hb, ht1, ht2⟩ := hrel
  have hwz := hb.size
  by_cases hlt : k < n
  · have h2 := H.out.fresh hb
    obtain ⟨m0, m1, m2, m3, m4, m5, m6, m7, m8, m9, m10⟩ := h2.mcells
    obtain ⟨adT, u, rfl, -, -, hu, hcT⟩ := (HTR.out.fresh hb).at_ hlt
    have hel : k < (s.req i).tokens.length := by rw [← HN.out]; exact hlt
    rw [ints_get _ _ hel] at hu
    injection hu with hu
    subst hu
    have htok := HOK.out.toks _ (List.getElem_mem hel)
    have HTK := Lib.hid (entriesOf_take s.M (s.req i).tokens k hel)
    generalize (s.req i).tokens[k] = t at *
    obtain ⟨t, rfl⟩ := Int.eq_ofNat_of_zero_le htok.1
    have htv : t < s.M.vocab := by omega
    have HO := Lib.hid ho
    have HRW := Lib.hid hrw
    have H1 := Lib.hid h1
    have HB := Lib.hid hb
    have HT1 := Lib.hid ht1
    have HT2 := Lib.hid ht2
    have HEN := Lib.hid (Entry_ok wr _ s.M _ _ _ _ _ _ _ h2.model HS.out.M t k htv (by omega))
    clear hel htok ho hrw h1 hb ht1 ht2 h2
    go_wp2_with fail
    refine HEN.out.mono ?_
    rintro e w2 ⟨v, rfl, hfr, hb2⟩
    have hslc := hfr.slc
    obtain ⟨Av, cv, rfl, -, -⟩ := hfr.shape
    have HFR := Lib.hid hfr
    have ho2 := HO.out.fresh hb2
    have HB2 := Lib.hid hb2
    have hz2' := hb2.size
    have HSLC := Lib.hid hslc
    generalize (s.M.entry t k).length = le at *
    clear hfr hslc hb2
    go_wp2_with (first | (at_builtin; go_must (refine wpList_append_any _ rfl _ _ 84 rfl 22 i0 _ 1 24 Tryz.underlying84 hi0 hz0 hz1 hz2 rfl (by omega) u4 _ _ rfl (ho2.alloc _) _ 1 1 _ rfl (own_lit _ (fun _ => True) _ [_] 1 (by decide) rfl trivial).reads (by intro u hu; simp at hu; subst hu; rfl) (by unfold maxLen; omega) (by omega) ?_); intro v' w3 happ))
    go_roundw
    case rel =>
      obtain ⟨o1, o2⟩ := appBelow happ (by simp; omega) (fun g hg => ho2.2 g hg)
      have hb3 := o2
      have hgr : w2.grownBy w3 u4.ownBlock := grown_after (wr := w2) (W1 := w2) (n := 0) (Below.refl _ _) happ.2.1
      have kk : Keeps (fun g => u4.ownBlock = some g) w2 w3 := (Keeps.refl _ w2).grown hgr (fun k e _ => e)
      have r1 : Rows w2 (fun g => T2 g ∨ (wr.heap.size ≤ g ∧ g < w2.heap.size)) vs ((entriesOf s.M (s.req i).tokens).take k) := (HRW.out.fresh HB2.out).more fun g _ h => Or.inl h
      have r2 : Slc w2 (fun g => T2 g ∨ (wr.heap.size ≤ g ∧ g < w2.heap.size)) (.slice Av le cv) (s.M.entry t k) := HSLC.out.more fun g hg h => Or.inr ⟨h, hg⟩
      have r3 := (r1.snoc r2).keeps kk fun g hg e => by
        rcases hg with hg | hg
        · exact HT1.out g e hg
        · have := HO.out.lt e; omega
      refine ⟨k + 1, vs ++ [.slice Av le cv], (fun g => T2 g ∨ (wr.heap.size ≤ g ∧ g < w2.heap.size)), by omega, by go_num, o1, ?_, ?_, (HB.out.trans (HB2.out.mono hwz)).trans ⟨o2.os, o2.tape, o2.output, Nat.le_trans (by simp) o2.size, fun q hq => (o2.block q hq).trans (Below.heap_alloc _ _ _ (by omega))⟩, ?_, ?_⟩
      · rw [HTK.out]
        exact r3
      · intro u hu
        rcases List.mem_append.1 hu with hu | hu
        · exact H1.out u hu
        · simp at hu; subst hu; rfl
      · intro g hg hT
        rcases happ.2.2 with e | e
        · rw [e] at hg
          rcases hT with hT | hT
          · exact HT1.out g hg hT
          · have := HO.out.lt hg; omega
        · rw [e] at hg
          injection hg with hg
          subst hg
          rcases hT with hT | hT
          · have := HT2.out _ hT; simp at this; omega
          · have := hT.2; simp at this; omega
      · intro g hT
        have := hgr.size
        rcases hT with hT | hT
        · have := HT2.out _ hT; omega
        · omega
    case measure => simp [intOf]; omega
  · obtain rfl : k = n := by omega
    have h2 := H.out.fresh hb
    obtain ⟨m0, m1, m2, m3, m4, m5, m6, m7, m8, m9, m10⟩ := h2.mcells
    have e4 : wr.cell? ⟨P.rb i, 4, none⟩ = some (.int .i64 (s.req i).seed) := h2.rcell i _ HIR.out 4
    have e6 : wr.cell? ⟨P.rb i, 6, none⟩ = some (.int .i64 (s.req i).made) := h2.rcell i _ HIR.out 6
    obtain ⟨E, ce, rfl, -, -⟩ := ho.shape
    have hrd := ho.reads
    have hlen : (entriesOf s.M (s.req i).tokens).length = k := by rw [entriesOf_length, ← HN.out]
    have HD := Lib.hid (drawF_range (s.req i).seed (s.req i).made)
    rw [List.take_of_length_le (by omega)] at hrw
    have hN := fun w' (hw : Below wr.heap.size wr w') => Next_ok w' _ _ _ s.M _ _ _ _ _ _ _ (h2.fresh hw).model HS.out.M HS.out.kind E ce vs (entriesOf s.M (s.req i).tokens) (by rw [hlen]; exact hrd.fresh hw) (hrw.fresh hw) (entriesOf_good s.M HS.out.M HS.out.kind _)
      (by rw [hlen, HN.out]; have := HOK.out.tokens; have := HOK.out.prompt; omega) (by rw [hlen]; omega) (drawF (s.req i).seed (s.req i).made) HD.out
    rw [hlen] at hN
    have HNXT := Lib.hid hN
    have HTOK : Hid (nextTok s.M (s.req i) = (s.M.next (entriesOf s.M (s.req i).tokens) (drawF (s.req i).seed (s.req i).made) : Nat)) := Lib.hid rfl
    have HDR := Lib.hid (fun w' => draw_any (s.req i).seed (s.req i).made w')
    have H2 := Lib.hid h2
    have HB := Lib.hid hb
    generalize drawF (s.req i).seed (s.req i).made = d at *
    generalize s.M.next (entriesOf s.M (s.req i).tokens) d = tk at *
    have hmd : (s.req i).made ≤ 32 := by have := HOK.out.made; have := HOK.out.most; omega
    obtain ⟨sd, hsd⟩ : ∃ sd, sd = (s.req i).seed := ⟨_, rfl⟩
    obtain ⟨md, hmd'⟩ : ∃ md, md = (s.req i).made := ⟨_, rfl⟩
    rw [← hsd] at e4 HDR
    rw [← hmd'] at e6 HDR hmd
    have HMD := Lib.hid hmd'
    clear hsd hmd' hN hlen hrd hrw ho h1 ht1 ht2 h2 HTR hb
    go_wp2_with fail
    have zsa' : P.sa < wr.heap.size := by omega
    have zrb' : P.rb i < wr.heap.size := by omega
    go_region_held3 (fun w' => w'.cell? ⟨P.sa, 0, none⟩ = some (.int .i64 s.M.kind) ∧ w'.cell? ⟨P.sa, 1, none⟩ = some (.int .i64 s.M.vocab) ∧ w'.cell? ⟨P.sa, 2, none⟩ = some (.int .i64 s.M.width) ∧ w'.cell? ⟨P.sa, 3, none⟩ = some (.int .i64 s.M.top) ∧
        w'.cell? ⟨P.sa, 4, none⟩ = some P.v4 ∧ w'.cell? ⟨P.sa, 5, none⟩ = some P.v5 ∧ w'.cell? ⟨P.sa, 6, none⟩ = some P.v6 ∧ w'.cell? ⟨P.sa, 7, none⟩ = some P.v7 ∧ w'.cell? ⟨P.sa, 8, none⟩ = some P.v8 ∧ w'.cell? ⟨P.sa, 9, none⟩ = some P.v9 ∧ w'.cell? ⟨P.sa, 10, none⟩ = some P.v10 ∧
        w'.cell? ⟨P.rb i, 4, none⟩ = some (.int .i64 sd) ∧ w'.cell? ⟨P.rb i, 6, none⟩ = some (.int .i64 md)) (first | go_keep | exact ⟨(bc _ _ zsa').trans m0, (bc _ _ zsa').trans m1, (bc _ _ zsa').trans m2, (bc _ _ zsa').trans m3, (bc _ _ zsa').trans m4, (bc _ _ zsa').trans m5, (bc _ _ zsa').trans m6, (bc _ _ zsa').trans m7, (bc _ _ zsa').trans m8, (bc _ _ zsa').trans m9, (bc _ _ zsa').trans m10, (bc _ _ zrb').trans e4, (bc _ _ zrb').trans e6⟩) ((first
      | (go_at_call 46; refine (HDR.out _).mono ?_; rintro e w' ⟨rfl, rfl⟩)
      | (go_at_call 95; refine (HNXT.out _ (Below.refl _ _).drew).mono ?_; rintro e w2 ⟨rfl, hb2⟩; have bc := (bcell hb2).1)))
    have hbw : Below wr.heap.size wr w2 := hb2.drewed
    have h3 := H2.out.fresh hbw
    have st3 := Step.fresh (HB.out.trans (hbw.mono hwz)) own P m
    have hq3 := h3.req i HI.out
    have hri3 : s.reqs[i]'HI.out = s.req i := by have := HIR.out; rw [List.getElem?_eq_getElem HI.out] at this; injection this
    rw [hri3] at hq3
    have hown := hq3.tokens
    rw [HVT.out, ← HN.out] at hown
    have q5 : w2.cell? ⟨P.rb i, 5, none⟩ = some (.slice AT k cT) := by
      have := h3.rcell i _ HIR.out 5
      rw [this, HN.out, ← HVT.out]; rfl
    have hk5 : ∀ v' w4 n' xs, Appended (w2.alloc (.cells #[.int .i64 tk] 3)) w4 (fun g => own g = .tokens i) 3 1 (.slice AT k cT) v' n' xs → ∀ j, w4.cell? ⟨P.rb i, j, none⟩ = (reqCells P i (s.req i))[j]? ∧ w4.frozen? ⟨P.rb i, j, none⟩ = false := by
      intro v' w4 n' xs happ j
      exact (h3.alloc (.cells #[.int .i64 tk] 3)).tokensKept i _ HIR.out (v' := v') (w' := w4) (n' := n') (xs := xs) (by rw [HVT.out, ← HN.out]; exact happ) j
    have HK5 := Lib.hid hk5
    have H3 := Lib.hid h3
    have ST3 := Lib.hid st3
    have HTV : Hid ((reqCells P i (s.req i))[5]? = some (.slice AT k cT)) := by
      show some (P.vtok i) = _
      rw [HVT.out, ← HN.out]
    have HT6 : Hid ((reqCells P i (s.req i))[6]? = some (.int .i64 md)) := by
      show some (Value.int .i64 (s.req i).made) = _
      rw [HMD.out]
    have HT12 : Hid ((reqCells P i (s.req i))[12]? = some (.bool (s.req i).worked)) := Lib.hid rfl
    clear hk5 h3 st3 hq3 hri3 m0 m1 m2 m3 m4 m5 m6 m7 m8 m9 m10 e4 e6 bc hb2 hbw HDR HNXT H2
    obtain ⟨j0, hj0, jz0, jz1, jz2⟩ := info_parts int_info
    go_wp2_with (first | (at_builtin; go_must (refine wpList_append_any _ rfl _ _ 22 rfl 3 j0 _ 1 8 Tryz.underlying22 hj0 jz0 jz1 jz2 rfl (by omega) (.slice AT k cT) _ _ rfl (hown.alloc _) _ 1 1 _ rfl (reads_new _ _ [(tk : Int)] 1 rfl) (ints_one _) (by unfold maxLen; omega) (by omega) ?_); intro v' w4 happ; obtain ⟨k5, kf5⟩ := HK5.out _ _ _ _ happ 5; obtain ⟨k6, kf6⟩ := HK5.out _ _ _ _ happ 6; obtain ⟨k12, kf12⟩ := HK5.out _ _ _ _ happ 12; rw [HT6.out] at k6; rw [HT12.out] at k12; rw [HTV.out] at k5; obtain ⟨A4, c4, rfl, -, -⟩ := happ.1.shape))
    obtain ⟨h5, st5⟩ := (H3.out.alloc (.cells #[.int .i64 tk] 3)).newTokens i _ HIR.out (v' := .slice A4 (k + 1) c4) (w' := w4) (n' := k + 1) (l' := (s.req i).tokens ++ [(tk : Int)]) (by
      rw [HVT.out, ← HN.out, show ints ((s.req i).tokens ++ [(tk : Int)]) = ints (s.req i).tokens ++ ints [(tk : Int)] by simp [ints]]
      exact happ) (by rw [List.length_append, ← HN.out]; rfl) m
    have g5 : ({ s with reqs := s.reqs.set i { s.req i with tokens := (s.req i).tokens ++ [(tk : Int)] } } : Srv).reqs[i]? = some { s.req i with tokens := (s.req i).tokens ++ [(tk : Int)] } := List.getElem?_set_self HI.out
    obtain ⟨h6, st6⟩ := h5.reqSame i 6 _ { s.req i with tokens := (s.req i).tokens ++ [(tk : Int)], made := (s.req i).made + 1 } g5 rfl rfl rfl rfl (u := .int .i64 ((md : Int) + 1)) (by rw [HMD.out]; rfl) m
    have g6 : ((({ s with reqs := s.reqs.set i { s.req i with tokens := (s.req i).tokens ++ [(tk : Int)] } } : Srv)).setReq i { s.req i with tokens := (s.req i).tokens ++ [(tk : Int)], made := (s.req i).made + 1 }).reqs[i]? = some { s.req i with tokens := (s.req i).tokens ++ [(tk : Int)], made := (s.req i).made + 1 } := List.getElem?_set_self (by rw [List.length_set]; exact HI.out)
    obtain ⟨h7, st7⟩ := h6.reqSame i 12 _ { s.req i with tokens := (s.req i).tokens ++ [(tk : Int)], made := (s.req i).made + 1, worked := true } g6 rfl rfl rfl rfl (u := .bool true) rfl m
    rw [set_setReq] at h7
    have e7 : (({ s with reqs := s.reqs.set i { s.req i with tokens := (s.req i).tokens ++ [(tk : Int)] } } : Srv).setReq i { s.req i with tokens := (s.req i).tokens ++ [(tk : Int)], made := (s.req i).made + 1, worked := true }) = s.made1 i := by
      unfold Srv.made1 Srv.setReq
      rw [HTOK.out]
      simp
    rw [e7] at h7
    have ST7 := Lib.hid (ST3.out.tr ((((Step.fresh ((Below.refl _ _).alloc (Nat.le_refl _) _) own P m).tr st5).tr st6).tr st7))
    have H7 := Lib.hid h7
    have him : i < (s.made1 i).reqs.length := by unfold Srv.made1; rw [Srv.setReq_length]; exact HI.out
    have hrm : (s.made1 i).req i = { s.req i with tokens := (s.req i).tokens ++ [nextTok s.M (s.req i)], made := (s.req i).made + 1, worked := true } := by
      unfold Srv.made1
      rw [Srv.req_setReq _ _ _ _ HI.out, if_pos rfl]
    have r6 := h7.rcell i _ ((s.made1 i).req_get i him) 6
    have r3 := h7.rcell i _ ((s.made1 i).req_get i him) 3
    have hend := fun n => end_any _ _ _ (s.made1 i) (h7.drewN n) i him (by rw [hrm]; exact HOK.out.holds) 0 m (Nat.lt_of_lt_of_le HI.out HM.out)
    have HEND := Lib.hid hend
    rw [hrm] at r6 r3
    dsimp only at r6 r3
    generalize ((w4.setCell ⟨P.rb i, 5, none⟩ (.slice A4 (k + 1) c4)).setCell ⟨P.rb i, 6, none⟩ (.int .i64 ((md : Int) + 1))).setCell ⟨P.rb i, 12, none⟩ (.bool true) = w5 at *
    have r6' : w5.cell? ⟨P.rb i, 6, none⟩ = some (.int .i64 ((md : Int) + 1)) := by
      have e : w5.cell? ⟨P.rb i, 6, none⟩ = some (.int .i64 (((s.req i).made + 1 : Nat) : Int)) := r6
      rw [e, HMD.out]; rfl
    have r3' : w5.cell? ⟨P.rb i, 3, none⟩ = some (.int .i64 (s.req i).most) := r3
    obtain ⟨mo, hmo⟩ : ∃ mo, mo = (s.req i).most := ⟨_, rfl⟩
    rw [← hmo] at r3'
    have HMO := Lib.hid hmo
    clear h5 st5 h6 st6 h7 st7 g5 g6 e7 hrm r6 r3 hend hmo k5 k6 k12 kf5 kf6 kf12 happ hown q5
    by_cases ht0 : tk = 0
    · have hz : (((tk : Nat) : Int) == 0) = true := by simp [ht0]
      go_quiet (fail)
      go_wp2_with fail
      refine (HEND.out nq).mono ?_
      rintro e w6 ⟨rfl, own6, P6, h8, st8⟩
      have H8 := Lib.hid h8
      have ST8 := Lib.hid st8
      clear h8 st8
      go_wp2_with fail
      go_end0
      refine ⟨rfl, own6, P6, ?_, (ST7.out.drewN nq).tr ST8.out⟩
      rw [HNX.out, if_pos (Or.inl (by rw [HTOK.out, ht0]; rfl))]
      exact H8.out
    · have hz : (((tk : Nat) : Int) == 0) = false := by simp; omega
      by_cases hmm : (md : Int) + 1 = mo
      · have hz2 : ((md : Int) + 1 == mo) = true := by simpa using hmm
        clear hmm
        go_quiet (fail)
        go_wp2_with fail
        refine (HEND.out nq).mono ?_
        rintro e w6 ⟨rfl, own6, P6, h8, st8⟩
        have H8 := Lib.hid h8
        have ST8 := Lib.hid st8
        clear h8 st8
        go_wp2_with fail
        go_end0
        refine ⟨rfl, own6, P6, ?_, (ST7.out.drewN nq).tr ST8.out⟩
        rw [HNX.out, if_pos (Or.inr (by rw [← HMD.out, ← HMO.out]; simpa using hz2))]
        exact H8.out
      · have hz2 : ((md : Int) + 1 == mo) = false := by simpa using hmm
        go_quiet (fail)
        go_wp2_with fail
        go_end0
        refine ⟨rfl, _, _, ?_, (ST7.out.drewN nq)⟩
        rw [HNX.out, if_neg (by rw [HTOK.out, ← HMD.out, ← HMO.out]; rintro (h | h); exact ht0 (by omega); exact hmm h)]
        exact H7.out.drewN nq
end Go.Proofs.YtedkfehdfmimoaaGreat

namespace Go.Proofs.YtedkfehdfmimoaaGreat
open Go.RowKit

theorem Step.behind {w w1 : World} {own own1 : Nat → Slot} {P P1 : Ptrs} {m : Nat} (st : Step w own P w1 own1 P1 m) {b : List Nat} (hb : ∀ i ∈ b, i < m) {B : Option Addr} {n : Nat} (hB : Reads w (own · = .other) 1 B n (ptrs P.rb b)) :
    Reads w1 (own1 · = .other) 1 B n (ptrs P1.rb b) := by
  have e : ptrs P1.rb b = ptrs P.rb b := by
    unfold ptrs
    apply List.map_congr_left
    intro i hi
    rw [st.rb i (hb i hi)]
  rw [e]
  have h1 := hB.more (T' := fun g => own g = .other ∧ g < w.heap.size) fun g hg e => ⟨e, hg⟩
  exact (h1.keeps st.keeps fun g hg hn => hn hg.1).more fun g _ hg => by rw [st.old g hg.2]; exact hg.1
set_option maxRecDepth 100000 in
set_option maxHeartbeats 4000000 in
theorem work_any (w : World) (own : Nat → Slot) (P : Ptrs) (s : Srv) (h : Rep w own P s) (hs : s.Ok) (i : Nat) (hi : i < s.reqs.length) (b : List Nat) (hb : ∀ i ∈ b, i < s.reqs.length) (hib : i ∉ b) (B : Option Addr) (c : Nat) (hB : Reads w (own · = .other) 1 B b.length (ptrs P.rb b)) (m : Nat) (hm : s.reqs.length ≤ m) (hbl : b.length ≤ 12) (hbc : b.length ≤ c)
    (hyet : (s.req i).ended = false) :
    Calls Tryz.prog 37 #[.pointer (some ⟨P.sa, 0, none⟩), .pointer (some ⟨P.rb i, 0, none⟩), .slice B b.length c] w (RepRes w own P m (s.work i b)) := by
  have H := Lib.hid h
  have HS := Lib.hid hs
  have HI := Lib.hid hi
  have HB := Lib.hid hb
  have HIB := Lib.hid hib
  have HBR := Lib.hid hB
  have HM := Lib.hid hm
  have HYET := Lib.hid hyet
  have HWK : Hid (s.work i b = (s.share i).work2 i b) := Lib.hid rfl
  have HSH := Lib.hid (share_ok s hs i hi)
  have HSE : Hid (s.share i = Srv.shareL ((s.req i).tokens.length + 1) s i) := Lib.hid rfl
  have hpl := hs.npages
  have hcp := hs.c.pages
  have hcs := hs.c.pageSize
  have h0 := shared_any w own P s h i hi hcs (hs.reqs i hi).ent (by have := (hs.reqs i hi).tok64; omega) (by omega) (fun k hk => by have := hs.ptok k hk; omega)
  have HSH0 := Lib.hid h0
  clear h0 hpl hcp hcs h hs hb hib hB hm hyet hi
  obtain ⟨nb, hnb⟩ : ∃ nb, nb = b.length := ⟨_, rfl⟩
  rw [← hnb] at hbl hbc ⊢
  rw [← hnb] at HBR
  have HNB := Lib.hid hnb
  clear hnb
  generalize s.work i b = res at *
  generalize hso : s.shared i = o0 at *
  have HSO := Lib.hid hso
  clear hso
  go_enter Tryz.func37, Tryz.ntmps37
  go_wp2_with fail
  refine HSH0.out.mono ?_
  rintro e w1 ⟨k0, rfl, hk0, hb1⟩
  have H1 := Lib.hid (H.out.fresh hb1)
  have ST1 := Lib.hid (Step.fresh hb1 own P m)
  have HK0 := Lib.hid hk0
  clear hk0 hb1
  go_wp2_with fail
  go_loopg [6, 7] (s.req i).tokens.length (fun f x6 x7 wr => ∃ (s1 : Srv) (own1 : Nat → Slot) (P1 : Ptrs) (o : Option Nat) (k : Int), x6 = .int .i64 k ∧ x7 = .bool o.isSome ∧ Rep wr own1 P1 s1 ∧ Step w own P wr own1 P1 m ∧
    Hid (s1.shared i = o ∧ (∀ j, o = some j → k = (j : Int)) ∧ s1.Ok ∧ PSame s s1 ∧ Srv.shareL (f + 1) s1 i = s.share i ∧ (s1.req i).tokens.length - (s1.req i).entries ≤ f))
  case atStart =>
    exact ⟨s, own, P, o0, k0, rfl, rfl, H1.out, ST1.out, HSO.out, HK0.out, HS.out, PSame.refl s, HSE.out.symm, Nat.sub_le _ _⟩
  obtain ⟨s1, own1, P1, o, k, rfl, rfl, h1, st1, HX⟩ := hrel
  have HH1 := Lib.hid h1
  have HST := Lib.hid st1
  clear h1 st1
  have hsa := HST.out.sa
  have hrb := HST.out.rb i (Nat.lt_of_lt_of_le HI.out HM.out)
  have hi1 : i < s1.reqs.length := by rw [HX.out.2.2.2.1.nreqs]; exact HI.out
  have hir := s1.req_get i hi1
  have hq := HH1.out.req i hi1
  have hri : s1.reqs[i] = s1.req i := by rw [List.getElem?_eq_getElem hi1] at hir; injection hir
  rw [hri] at hq
  have HSA := Lib.hid hsa
  have HRB := Lib.hid hrb
  have HI1 := Lib.hid hi1
  have HIR := Lib.hid hir
  have HQ := Lib.hid hq
  clear hsa hrb hi1 hir hq hri
  cases o with
  | none =>
    have hres : s.share i = s1 := by
      rw [← HX.out.2.2.2.2.1, shareL_succ, HX.out.1]
    have hrw : res = s1.work2 i b := by rw [HWK.out, hres]
    have HRES := Lib.hid hrw
    obtain ⟨A, ca, hv, -, -⟩ := HQ.out.tokens.shape
    have c5 : wr.cell? ⟨P.rb i, 5, none⟩ = some (.slice A (s1.req i).tokens.length ca) := by
      have := HH1.out.rcell i _ HIR.out 5
      rw [HRB.out] at this
      rw [this, ← hv]; rfl
    have c8 : wr.cell? ⟨P.rb i, 8, none⟩ = some (.int .i64 (s1.req i).entries) := by rw [← HRB.out]; exact HH1.out.rcell i _ HIR.out 8
    have hyet1 : (s1.req i).ended = false := by
      have h1 : (core (s1.req i)).ended = (core (s.req i)).ended := by rw [HX.out.2.2.2.1.core i]
      exact h1.trans HYET.out
    have hbm : ∀ i ∈ b, i < m := fun i hi => Nat.lt_of_lt_of_le (HB.out i hi) HM.out
    have hb1 : ∀ i ∈ b, i < s1.reqs.length := fun j hj => by rw [HX.out.2.2.2.1.nreqs]; exact HB.out j hj
    have hbr := HST.out.behind hbm HBR.out
    have hm1 : s1.reqs.length ≤ m := by rw [HX.out.2.2.2.1.nreqs]; exact HM.out
    rw [HNB.out] at hbr hbl hbc
    have hcomp := fun n he => compute_any (wr.drewN n) own1 P1 s1 (HH1.out.drewN n) HX.out.2.2.1 i HI1.out b hb1 HIB.out B c (hbr.drewN n) m hm1 hbl hbc he
    have hnext := fun n => next_serve (wr.drewN n) own1 P1 s1 (HH1.out.drewN n) HX.out.2.2.1 i HI1.out m hm1 hyet1
    rw [HSA.out, HRB.out] at hcomp hnext
    rw [← HNB.out] at hcomp
    have HC := Lib.hid hcomp
    have HN := Lib.hid hnext
    have hlt64 := (HX.out.2.2.1.reqs i HI1.out).tok64
    obtain ⟨E, hE⟩ : ∃ E, E = (s1.req i).entries := ⟨_, rfl⟩
    obtain ⟨T, hT⟩ : ∃ T, T = (s1.req i).tokens.length := ⟨_, rfl⟩
    rw [← hE] at c8
    rw [← hT] at c5
    have HE := Lib.hid hE
    have HT := Lib.hid hT
    clear hE hT hcomp hnext hres hrw hv hyet1 hbm hb1 hbr hm1 hlt64
    by_cases hlt : E < T
    · go_wp2_with fail
      go_quiet (fail)
      go_wp2_with fail
      refine (HC.out nq (by rw [← HE.out, ← HT.out]; exact hlt)).mono ?_
      rintro e w3 ⟨rfl, own3, P3, h3, st3⟩
      have H3 := Lib.hid h3
      have ST3 := Lib.hid st3
      clear h3 st3
      go_wp2_with fail
      go_end0
      refine ⟨rfl, own3, P3, ?_, (HST.out.drewN nq).tr ST3.out⟩
      rw [HRES.out, Srv.work2, if_pos (by rw [← HE.out, ← HT.out]; exact hlt)]
      exact H3.out
    · go_wp2_with fail
      go_quiet (fail)
      go_wp2_with fail
      refine (HN.out nq).mono ?_
      rintro e w3 ⟨rfl, own3, P3, h3, st3⟩
      have H3 := Lib.hid h3
      have ST3 := Lib.hid st3
      clear h3 st3
      go_wp2_with fail
      go_end0
      refine ⟨rfl, own3, P3, ?_, (HST.out.drewN nq).tr ST3.out⟩
      rw [HRES.out, Srv.work2, if_neg (by rw [← HE.out, ← HT.out]; exact hlt)]
      exact H3.out
  | some j =>
    obtain rfl := HX.out.2.1 j rfl
    obtain ⟨hs1, hs2, hjl⟩ := shared_some HX.out.1
    have hown := HQ.out.holds
    obtain ⟨A, ca, hv, hc1, hc2⟩ := hown.shape
    rw [hv] at hown
    have c7 : wr.cell? ⟨P.rb i, 7, none⟩ = some (.slice A (s1.req i).holds.length ca) := by
      have := HH1.out.rcell i _ HIR.out 7
      rw [HRB.out] at this
      rw [this, ← hv]; rfl
    have hfew : (s1.req i).holds.length ≤ 64 := by have := (HX.out.2.2.1.reqs i HI1.out).few; have := (HX.out.2.2.1.reqs i HI1.out).ent; have := (HX.out.2.2.1.reqs i HI1.out).tok64; omega
    obtain ⟨hl, hhl⟩ : ∃ hl, hl = (s1.req i).holds.length := ⟨_, rfl⟩
    rw [← hhl] at c7 hown hfew hc1
    have HHL := Lib.hid hhl
    have HV := Lib.hid hv
    have HJL := Lib.hid hjl
    have HS2 := Lib.hid hs2
    have hj0 : (0 : Int) ≤ j := by omega
    have hj1 : (j : Int) < s1.pages.length := by omega
    have hnp : s1.pages.length ≤ 64 := by have := HX.out.2.2.1.npages; have := HX.out.2.2.1.c.pages; omega
    have hk7 : ∀ v' w4 n' xs, Appended (wr.alloc (.cells #[.int .i64 j] 3)) w4 (fun g => own1 g = .holds i) 3 1 (.slice A hl ca) v' n' xs → w4.cell? ⟨P.rb i, 7, none⟩ = some (.slice A hl ca) ∧ w4.frozen? ⟨P.rb i, 7, none⟩ = false := by
      intro v' w4 n' xs happ
      have := (HH1.out.alloc (.cells #[.int .i64 j] 3)).holdsKept i _ HIR.out (v' := v') (w' := w4) (n' := n') (xs := xs) (by rw [HV.out, ← HHL.out]; exact happ) 7
      rw [HRB.out] at this
      refine ⟨this.1.trans ?_, this.2⟩
      show some (P1.vhold i) = _
      rw [HV.out, ← HHL.out]
    have HK7 := Lib.hid hk7
    obtain ⟨i0, hi0, hz0, hz1, hz2⟩ := info_parts int_info
    clear hk7 hhl hv hs1 hs2 hjl
    go_upto_region 4 with (first | (at_builtin; go_must (refine wpList_append_any _ rfl _ _ 22 rfl 3 i0 _ 1 8 Tryz.underlying22 hi0 hz0 hz1 hz2 rfl (by omega) (.slice A hl ca) _ _ rfl (hown.alloc _) _ 1 1 _ rfl (reads_new _ _ [(j : Int)] 1 rfl) (ints_one _) (by unfold maxLen; omega) (by omega) ?_); intro v' w4 happ; obtain ⟨k7, kf7⟩ := HK7.out _ _ _ _ happ; obtain ⟨A4, c4, rfl, -, -⟩ := happ.1.shape))
    obtain ⟨h5, st5⟩ := (HH1.out.alloc (.cells #[.int .i64 j] 3)).newHolds i _ HIR.out (v' := .slice A4 (hl + 1) c4) (w' := w4) (n' := hl + 1) (l' := (s1.req i).holds ++ [(j : Int)]) (by
      rw [HV.out, ← HHL.out, show ints ((s1.req i).holds ++ [(j : Int)]) = ints (s1.req i).holds ++ ints [(j : Int)] by simp [ints]]
      exact happ) (by rw [List.length_append, ← HHL.out]; rfl) m
    rw [HRB.out] at h5 st5
    have hst5 := HST.out.tr ((Step.fresh ((Below.refl _ _).alloc (Nat.le_refl _) _) own1 P1 m).tr st5)
    clear st5 happ k7 kf7 c7 hown HK7
    generalize w4.setCell ⟨P.rb i, 7, none⟩ (.slice A4 (hl + 1) c4) = w5 at *
    generalize hown5 : extOwn (wr.alloc (.cells #[.int .i64 j] 3)) w4 own1 (.holds i) = own5 at *
    have hpg5 : ({ s1 with reqs := s1.reqs.set i { s1.req i with holds := (s1.req i).holds ++ [(j : Int)] } } : Srv).pages[j]? = some (s1.pg j) := s1.pg_get j HJL.out
    have c18 : w5.cell? ⟨P.sa, 18, none⟩ = some (.slice (some ⟨P1.pb, 0, none⟩) s1.pages.length s1.pages.length) := by rw [← HSA.out]; exact h5.scell 18
    have d2 : w5.cell? ⟨P1.pb, j * 4 + 2, none⟩ = some (.int .i64 (s1.pg j).owners) := h5.pcell j _ hpg5 2 (by omega)
    have f2 : w5.frozen? ⟨P1.pb, j * 4 + 2, none⟩ = false := h5.pages.frozen _
    obtain ⟨h6, st6⟩ := h5.pageSame j 2 _ { s1.pg j with owners := wrap64 ((s1.pg j).owners + 1) } hpg5 (by omega) (u := .int .i64 (wrap64 ((s1.pg j).owners + 1))) rfl rfl m
    have H6 := Lib.hid h6
    have ST6 := Lib.hid (hst5.tr st6)
    clear h5 h6 st6 hst5 hpg5 hown5
    go_upto_region 5 with (fail)
    have h6 := H6.out
    have st6 := ST6.out
    change Rep (w5.setCell ⟨P1.pb, j * 4 + 2, none⟩ (.int .i64 (wrap64 ((s1.pg j).owners + 1)))) _ _ _ at h6
    change Step w own P (w5.setCell ⟨P1.pb, j * 4 + 2, none⟩ (.int .i64 (wrap64 ((s1.pg j).owners + 1)))) _ _ _ at st6
    clear H6 ST6 d2 f2 c18
    generalize w5.setCell ⟨P1.pb, j * 4 + 2, none⟩ (.int .i64 (wrap64 ((s1.pg j).owners + 1))) = w6 at *
    have hpg6 : (({ s1 with reqs := s1.reqs.set i { s1.req i with holds := (s1.req i).holds ++ [(j : Int)] } } : Srv).setPage j { s1.pg j with owners := wrap64 ((s1.pg j).owners + 1) }).pages[j]? = some { s1.pg j with owners := wrap64 ((s1.pg j).owners + 1) } := List.getElem?_set_self HJL.out
    have c18 : w6.cell? ⟨P.sa, 18, none⟩ = some (.slice (some ⟨P1.pb, 0, none⟩) s1.pages.length s1.pages.length) := by
      rw [← HSA.out]
      have := h6.scell 18
      unfold serverCells at this
      simpa [Srv.setPage] using this
    have c16 : w6.cell? ⟨P.sa, 16, none⟩ = some (.int .i64 s1.now) := by rw [← HSA.out]; exact h6.scell 16
    have d3 : w6.cell? ⟨P1.pb, j * 4 + 3, none⟩ = some (.int .i64 (s1.pg j).used) := h6.pcell j _ hpg6 3 (by omega)
    have f3 : w6.frozen? ⟨P1.pb, j * 4 + 3, none⟩ = false := h6.pages.frozen _
    obtain ⟨h7, st7⟩ := h6.pageSame j 3 _ { s1.pg j with owners := wrap64 ((s1.pg j).owners + 1), used := s1.now } hpg6 (by omega) (u := .int .i64 s1.now) rfl rfl m
    have H7 := Lib.hid (h7.drewN 1)
    have ST7 := Lib.hid ((st6.tr st7).drewN 1)
    clear h6 h7 st6 st7 hpg6
    go_still_tail 11, (by kernel_rfl)
    change wpList _ _ _ _ _ w6.drew
    go_upto_region 6 with (fail)
    have h7 := H7.out
    have st7 := ST7.out
    change Rep (w6.setCell ⟨P1.pb, j * 4 + 3, none⟩ (.int .i64 s1.now)).drew _ _ _ at h7
    change Step w own P (w6.setCell ⟨P1.pb, j * 4 + 3, none⟩ (.int .i64 s1.now)).drew _ _ _ at st7
    clear H7 ST7 c18 c16 d3 f3
    generalize (w6.setCell ⟨P1.pb, j * 4 + 3, none⟩ (.int .i64 s1.now)).drew = w7 at *
    have hir7 : ((({ s1 with reqs := s1.reqs.set i { s1.req i with holds := (s1.req i).holds ++ [(j : Int)] } } : Srv).setPage j { s1.pg j with owners := wrap64 ((s1.pg j).owners + 1) }).setPage j { s1.pg j with owners := wrap64 ((s1.pg j).owners + 1), used := s1.now }).reqs[i]? = some { s1.req i with holds := (s1.req i).holds ++ [(j : Int)] } := List.getElem?_set_self HI1.out
    have hi7 : i < ((({ s1 with reqs := s1.reqs.set i { s1.req i with holds := (s1.req i).holds ++ [(j : Int)] } } : Srv).setPage j { s1.pg j with owners := wrap64 ((s1.pg j).owners + 1) }).setPage j { s1.pg j with owners := wrap64 ((s1.pg j).owners + 1), used := s1.now }).reqs.length := by
      show i < (s1.reqs.set i _).length
      rw [List.length_set]; exact HI1.out
    have hrb7 := st7.rb i (Nat.lt_of_lt_of_le HI.out HM.out)
    have hsa7 := st7.sa
    have c8 : w7.cell? ⟨P.rb i, 8, none⟩ = some (.int .i64 (s1.req i).entries) := by rw [← hrb7]; exact h7.rcell i _ hir7 8
    have f8 : w7.frozen? ⟨P.rb i, 8, none⟩ = false := by rw [← hrb7]; exact h7.rfree i hi7 8
    have c12 : w7.cell? ⟨P.sa, 12, none⟩ = some (.int .i64 s1.c.pageSize) := by rw [← hsa7]; exact h7.scell 12
    obtain ⟨h8, st8⟩ := h7.reqSame i 8 _ { s1.req i with holds := (s1.req i).holds ++ [(j : Int)], entries := (s1.req i).entries + s1.c.pageSize } hir7 rfl rfl rfl rfl (u := .int .i64 (((s1.req i).entries + s1.c.pageSize : Nat) : Int)) rfl m
    rw [hrb7] at h8 st8
    have etake : ((({ s1 with reqs := s1.reqs.set i { s1.req i with holds := (s1.req i).holds ++ [(j : Int)] } } : Srv).setPage j { s1.pg j with owners := wrap64 ((s1.pg j).owners + 1) }).setPage j { s1.pg j with owners := wrap64 ((s1.pg j).owners + 1), used := s1.now }).setReq i { s1.req i with holds := (s1.req i).holds ++ [(j : Int)], entries := (s1.req i).entries + s1.c.pageSize } = s1.takeP i j := by
      unfold Srv.takeP Srv.setReq Srv.setPage
      simp
    rw [etake] at h8
    have hst8 := (st7.tr st8).drewN 1
    have h8d := h8.drewN 1
    have hps := HX.out.2.2.1.c.pageSize
    have hlt64 := (HX.out.2.2.1.reqs i HI1.out).tok64
    have hs2' := HS2.out
    obtain ⟨E, hE⟩ : ∃ E, E = (s1.req i).entries := ⟨_, rfl⟩
    obtain ⟨ps, hpse⟩ : ∃ ps, ps = s1.c.pageSize := ⟨_, rfl⟩
    rw [← hE] at c8
    rw [← hpse] at c12
    have hEle : E ≤ 64 := by omega
    have hple : ps ≤ 8 := by omega
    rw [← hE, ← hpse] at h8d hst8
    have HE := Lib.hid hE
    have HPS := Lib.hid hpse
    obtain ⟨hok8, hps8⟩ := Srv.takeP_ok HX.out.2.2.1 i j HI1.out HX.out.1
    have htk := s1.takeP_req i j HI1.out
    have H8 := Lib.hid h8d
    have ST8 := Lib.hid hst8
    have HTK := Lib.hid htk
    have OK8 := Lib.hid hok8
    have PS8 := Lib.hid hps8
    clear h7 st7 h8 st8 h8d hst8 etake hir7 hi7 hrb7 hsa7 hps hlt64 hs2' hE hpse hok8 hps8 htk
    go_still_tail 12, (by kernel_rfl)
    change wpList _ _ _ _ _ w7.drew
    go_upto_region 2 with (fail)
    have h8 := H8.out
    have st8 := ST8.out
    change Rep (w7.setCell ⟨P.rb i, 8, none⟩ (.int .i64 (((E + ps : Nat)) : Int))).drew _ _ _ at h8
    change Step w own P (w7.setCell ⟨P.rb i, 8, none⟩ (.int .i64 (((E + ps : Nat)) : Int))).drew _ _ _ at st8
    rw [show (((E + ps : Nat)) : Int) = (E : Int) + ps from by omega] at h8 st8
    clear H8 ST8 c8 f8 c12
    generalize (w7.setCell ⟨P.rb i, 8, none⟩ (.int .i64 ((E : Int) + ps))).drew = w8 at *
    have hi8 : i < (s1.takeP i j).reqs.length := by rw [PS8.out.nreqs]; exact HI1.out
    have hsh := shared_any w8 _ _ (s1.takeP i j) h8 i hi8 OK8.out.c.pageSize (OK8.out.reqs i hi8).ent (by have := (OK8.out.reqs i hi8).tok64; omega) (by have := OK8.out.npages; have := OK8.out.c.pages; omega) (fun k hk => by have := OK8.out.ptok k hk; have := OK8.out.c.pageSize; omega)
    have hrb8 := st8.rb i (Nat.lt_of_lt_of_le HI.out HM.out)
    have hsa8 := st8.sa
    rw [hrb8, hsa8] at hsh
    have HSH8 := Lib.hid hsh
    have H8 := Lib.hid h8
    have ST8 := Lib.hid st8
    clear hsh h8 st8 hrb8 hsa8 hi8
    go_wp2_with fail
    refine HSH8.out.mono ?_
    rintro e w9 ⟨k9, rfl, hk9, hb9⟩
    have H9 := Lib.hid (H8.out.fresh hb9)
    have ST9 := Lib.hid (ST8.out.tr (Step.fresh hb9 _ _ m))
    have HK9 := Lib.hid hk9
    clear hk9 hb9
    have hgk : 1 ≤ gk := by
      have h1 := HX.out.2.2.2.2.2
      have h2 := HS2.out
      have h3 := HX.out.2.2.1.c.pageSize.1
      omega
    generalize hnx : (s1.takeP i j).shared i = nx at *
    have HNXT := Lib.hid hnx
    clear hnx
    go_wp2_with fail
    go_roundg (gk - 1)
    case measure => omega
    case rel =>
      refine ⟨s1.takeP i j, _, _, nx, k9, rfl, rfl, H9.out, ST9.out, HNXT.out, HK9.out, OK8.out, HX.out.2.2.2.1.trans PS8.out, ?_, ?_⟩
      · rw [show gk - 1 + 1 = gk by omega, ← HX.out.2.2.2.2.1, shareL_succ, HX.out.1]
      · rw [HTK.out]
        have h1 := HX.out.2.2.2.2.2
        have h2 := HS2.out
        have h3 := HX.out.2.2.1.c.pageSize.1
        show (s1.req i).tokens.length - ((s1.req i).entries + s1.c.pageSize) ≤ gk - 1
        omega
end Go.Proofs.YtedkfehdfmimoaaGreat

namespace Go.Proofs.YtedkfehdfmimoaaGreat
open Go.RowKit

theorem fillPage_length (n : Nat) (r : Req) (p : Page) (ps : Nat) (hn : n ≤ ps - p.tokens.length) (hp : p.tokens.length ≤ ps) : (fillPage n r p).tokens.length ≤ ps := by
  unfold fillPage
  simp only [List.length_append, List.length_take, List.length_drop]
  omega
theorem fill_ok {s : Srv} (hs : s.Ok) (i k : Nat) (hi : i < s.reqs.length) (hk : k < s.pages.length) (hr : ∀ e, (s.req i).holds.length ≤ e → (s.req i).entries ≤ e → e ≤ (s.req i).tokens.length → ReqOk s { s.req i with entries := e, worked := true })
    (hf : (s.req i).holds.length ≤ (s.req i).entries + fillN s.c.pageSize (s.pg k) (s.req i)) (he : (s.req i).entries ≤ (s.req i).tokens.length) : (s.fill i k).Ok ∧ PSame s (s.fill i k) := by
  have hN : fillN s.c.pageSize (s.pg k) (s.req i) ≤ s.c.pageSize - (s.pg k).tokens.length ∧ fillN s.c.pageSize (s.pg k) (s.req i) ≤ (s.req i).tokens.length - (s.req i).entries := by
    unfold fillN
    omega
  have h1 := hs.setPage k hk { fillPage (fillN s.c.pageSize (s.pg k) (s.req i)) (s.req i) (s.pg k) with used := s.now } (fillPage_length _ _ _ _ hN.1 (hs.ptok k hk))
  have h2 := hr ((s.req i).entries + fillN s.c.pageSize (s.pg k) (s.req i)) hf (by omega) (by omega)
  have e : s.fill i k = (s.setPage k { fillPage (fillN s.c.pageSize (s.pg k) (s.req i)) (s.req i) (s.pg k) with used := s.now }).setReq i { s.req i with entries := (s.req i).entries + fillN s.c.pageSize (s.pg k) (s.req i), worked := true } := rfl
  rw [e]
  refine ⟨h1.setReq i hi _ rfl (h2.move rfl rfl (Srv.setPage_length _ _ _) (Nat.le_refl _)), (PSame.setPage s k { fillPage (fillN s.c.pageSize (s.pg k) (s.req i)) (s.req i) (s.pg k) with used := s.now }).trans (PSame.setReq (s.setPage k { fillPage (fillN s.c.pageSize (s.pg k) (s.req i)) (s.req i) (s.pg k) with used := s.now }) i hi _ rfl)⟩
theorem setReq_setPage (s : Srv) (i k : Nat) (r : Req) (p : Page) : (s.setReq i r).setPage k p = (s.setPage k p).setReq i r := rfl
theorem open_fill_ok {s : Srv} (hs : s.Ok) (i k : Nat) (hi : i < s.reqs.length) (hk : k < s.pages.length) (hlt : (s.req i).entries < (s.req i).tokens.length) :
    ((s.open1 i k).fill i k).Ok ∧ PSame s ((s.open1 i k).fill i k) := by
  have hr := hs.reqs i hi
  have hps := hs.c.pageSize
  have e0 : (s.open1 i k).fill i k = (s.setPage k { fillPage (fillN s.c.pageSize ⟨(s.req i).entries, [], 1, 0⟩ { s.req i with holds := (s.req i).holds ++ [(k : Int)] }) (s.req i) ⟨(s.req i).entries, [], 1, 0⟩ with used := s.now }).setReq i
      { s.req i with holds := (s.req i).holds ++ [(k : Int)], entries := (s.req i).entries + fillN s.c.pageSize ⟨(s.req i).entries, [], 1, 0⟩ { s.req i with holds := (s.req i).holds ++ [(k : Int)] }, worked := true } := by
    unfold Srv.fill
    rw [s.open1_pg i k hk, s.open1_req i k hi]
    unfold Srv.open1 Srv.setReq Srv.setPage fillPage
    simp
  have hN : fillN s.c.pageSize ⟨(s.req i).entries, [], 1, 0⟩ { s.req i with holds := (s.req i).holds ++ [(k : Int)] } = min s.c.pageSize ((s.req i).tokens.length - (s.req i).entries) := by
    unfold fillN
    simp
  rw [e0, hN]
  have h1 := hs.setPage k hk { fillPage (min s.c.pageSize ((s.req i).tokens.length - (s.req i).entries)) (s.req i) ⟨(s.req i).entries, [], 1, 0⟩ with used := s.now } (fillPage_length _ (s.req i) ⟨(s.req i).entries, [], 1, 0⟩ s.c.pageSize (by simp only [List.length_nil]; omega) (Nat.zero_le _))
  refine ⟨h1.setReq i hi _ rfl ?_, (PSame.setPage s k { fillPage (min s.c.pageSize ((s.req i).tokens.length - (s.req i).entries)) (s.req i) ⟨(s.req i).entries, [], 1, 0⟩ with used := s.now }).trans (PSame.setReq (s.setPage k { fillPage (min s.c.pageSize ((s.req i).tokens.length - (s.req i).entries)) (s.req i) ⟨(s.req i).entries, [], 1, 0⟩ with used := s.now }) i hi _ rfl)⟩
  have e : (s.setPage k { fillPage (min s.c.pageSize ((s.req i).tokens.length - (s.req i).entries)) (s.req i) ⟨(s.req i).entries, [], 1, 0⟩ with used := s.now }).pages.length = s.pages.length := Srv.setPage_length _ _ _
  refine ⟨hr.id, hr.dl, hr.prompt, hr.most, hr.seed, hr.made, hr.yet, hr.tokens, hr.toks, ?_, ?_, fun _ h => by simp at h, ?_, hr.kept⟩
  · intro x hx
    rw [e]
    rcases List.mem_append.1 hx with hx | hx
    · exact hr.holds x hx
    · simp at hx; omega
  · show (s.req i).entries + min s.c.pageSize ((s.req i).tokens.length - (s.req i).entries) ≤ (s.req i).tokens.length
    omega
  · show ((s.req i).holds ++ [(k : Int)]).length ≤ (s.req i).entries + min s.c.pageSize ((s.req i).tokens.length - (s.req i).entries)
    simp only [List.length_append, List.length_singleton]
    have := hr.few
    omega
theorem compute_ok {s : Srv} (hs : s.Ok) (i : Nat) (hi : i < s.reqs.length) (b : List Nat) (hb : ∀ i ∈ b, i < s.reqs.length) (hib : i ∉ b) (hlt : (s.req i).entries < (s.req i).tokens.length) : (s.compute i b).Ok ∧ PSame s (s.compute i b) := by
  unfold Srv.compute
  split
  · obtain ⟨p1, p2, p3, p4⟩ := page_same s b hs hb
    cases hp : s.page b with
    | mk s1 o =>
      rw [hp] at p1 p2 p3 p4
      cases o with
      | none => exact ⟨p1, p2⟩
      | some k =>
        have hi1 : i < s1.reqs.length := by rw [p2.nreqs]; exact hi
        have hr1 : s1.req i = s.req i := p3 i hib
        obtain ⟨a, b⟩ := open_fill_ok p1 i k hi1 (by rw [p2.npages]; exact p4 k rfl) (by rw [hr1]; exact hlt)
        exact ⟨a, p2.trans b⟩
  · rename_i hm
    have hr := hs.reqs i hi
    have hf := fillOk_last s hs i hi hm
    refine fill_ok hs i _ hi hf.hk (fun e h1 h2 h3 => ⟨hr.id, hr.dl, hr.prompt, hr.most, hr.seed, hr.made, hr.yet, hr.tokens, hr.toks, hr.holds, h3, fun _ => hr.last hm, h1, hr.kept⟩) ?_ hr.ent
    have := hr.few
    omega
theorem nextTok_in (s : Srv) (hs : s.Ok) (r : Req) : 0 ≤ nextTok s.M r ∧ nextTok s.M r < (s.M.vocab : Int) := by
  unfold nextTok
  have := s.M.next_lt hs.M (entriesOf s.M r.tokens) (drawF r.seed r.made) (drawF_range _ _)
  omega
/-- the request behind a token -/
def madeReq (M : Model) (r : Req) : Req := { r with tokens := r.tokens ++ [nextTok M r], made := r.made + 1 }
def stops (M : Model) (r : Req) : Prop := nextTok M r = 0 ∨ ((r.made : Int) + 1 = r.most)
instance (M : Model) (r : Req) : Decidable (stops M r) := by unfold stops; exact inferInstance
theorem next_eq (s : Srv) (i : Nat) (hi : i < s.reqs.length) : s.next i = if stops s.M (s.req i) then
      ({ s with pages := backPages s.c.pageSize s.pages (s.req i).holds }).setReq i { madeReq s.M (s.req i) with worked := true, holds := [], entries := 0, ended := true, err := 0, kept := -1 }
    else s.setReq i { madeReq s.M (s.req i) with worked := true } := by
  by_cases h : stops s.M (s.req i)
  · rw [if_pos h]
    unfold Srv.next
    rw [if_pos (show nextTok s.M (s.req i) = 0 ∨ ((s.req i).made : Int) + 1 = (s.req i).most from h)]
    unfold Srv.end_
    rw [giveBack_setReq]
    unfold Srv.made1
    rw [Srv.req_setReq _ _ _ _ hi, if_pos rfl]
    unfold Srv.setReq madeReq
    simp
  · rw [if_neg h]
    unfold Srv.next
    rw [if_neg (show ¬ (nextTok s.M (s.req i) = 0 ∨ ((s.req i).made : Int) + 1 = (s.req i).most) from h)]
    rfl
theorem next_ok {s : Srv} (hs : s.Ok) (i : Nat) (hi : i < s.reqs.length) (hy : (s.req i).ended = false) : (s.next i).Ok := by
  have hr := hs.reqs i hi
  have ht := nextTok_in s hs (s.req i)
  have hyet := hr.yet hy
  have htoks : ∀ t ∈ (s.req i).tokens ++ [nextTok s.M (s.req i)], 0 ≤ t ∧ t < (s.M.vocab : Int) := by
    intro t h
    rcases List.mem_append.1 h with h | h
    · exact hr.toks t h
    · simp at h; rw [h]; exact ht
  rw [next_eq s i hi]
  split
  · refine (giveBack_pages hs i).setReq i hi _ rfl ⟨hr.id, hr.dl, hr.prompt, hr.most, hr.seed, ?_, fun h => (by cases h), ?_, htoks, fun k hk => (by cases hk), Nat.zero_le _, fun h => absurd (Nat.zero_mod _) h, Nat.le_refl _, by constructor <;> simp⟩
    · show (((s.req i).made + 1 : Nat) : Int) ≤ (s.req i).most
      omega
    · show ((s.req i).tokens ++ [_]).length = (s.req i).prompt.length + ((s.req i).made + 1)
      rw [List.length_append, hr.tokens]; rfl
  · rename_i hns
    refine hs.setReq i hi _ rfl ⟨hr.id, hr.dl, hr.prompt, hr.most, hr.seed, ?_, fun _ => ?_, ?_, htoks, hr.holds, ?_, hr.last, hr.few, hr.kept⟩
    · show (((s.req i).made + 1 : Nat) : Int) ≤ (s.req i).most
      omega
    · show (((s.req i).made + 1 : Nat) : Int) < (s.req i).most
      unfold stops at hns
      omega
    · show ((s.req i).tokens ++ [_]).length = (s.req i).prompt.length + ((s.req i).made + 1)
      rw [List.length_append, hr.tokens]; rfl
    · show (s.req i).entries ≤ ((s.req i).tokens ++ [_]).length
      rw [List.length_append]
      have := hr.ent
      omega
end Go.Proofs.YtedkfehdfmimoaaGreat

namespace Go.Proofs.YtedkfehdfmimoaaGreat
open Go.RowKit

structure Stat (s s' : Srv) : Prop where
  M : s'.M = s.M
  c : s'.c = s.c
  now : s'.now = s.now
  log : s'.log = s.log
  records : s'.records = s.records
  synced : s'.synced = s.synced
  replay : s'.replay = s.replay
  nreqs : s'.reqs.length = s.reqs.length
theorem Stat.refl (s : Srv) : Stat s s := ⟨rfl, rfl, rfl, rfl, rfl, rfl, rfl, rfl⟩
theorem Stat.trans {a b c : Srv} (h : Stat a b) (k : Stat b c) : Stat a c :=
  ⟨k.M.trans h.M, k.c.trans h.c, k.now.trans h.now, k.log.trans h.log, k.records.trans h.records, k.synced.trans h.synced, k.replay.trans h.replay, k.nreqs.trans h.nreqs⟩
theorem PSame.stat {s s' : Srv} (h : PSame s s') : Stat s s' := ⟨h.M, h.c, h.now, h.log, h.records, h.synced, h.replay, h.nreqs⟩
theorem Stat.setReq (s : Srv) (i : Nat) (r : Req) : Stat s (s.setReq i r) := ⟨rfl, rfl, rfl, rfl, rfl, rfl, rfl, Srv.setReq_length _ _ _⟩
def finReq (M : Model) (r : Req) : Req := { madeReq M r with ended := true, err := 0, kept := -1 }
def lateReq (r : Req) : Req := { r with ended := true, err := 18, kept := -1 }
/-- how a request turns in a piece of work -/
def RStep (M : Model) (r r' : Req) : Prop := core r' = core r ∨ (r.ended = false ∧ ¬ stops M r ∧ core r' = core (madeReq M r)) ∨ (r.ended = false ∧ stops M r ∧ core r' = core (finReq M r))
theorem core_next (M : Model) {r r' : Req} (h : core r' = core r) : nextTok M r' = nextTok M r ∧ (stops M r' ↔ stops M r) ∧ core (madeReq M r') = core (madeReq M r) ∧ core (finReq M r') = core (finReq M r) := by
  have e1 : r'.tokens = r.tokens := by have := congrArg Req.tokens h; exact this
  have e2 : r'.seed = r.seed := by have := congrArg Req.seed h; exact this
  have e3 : r'.made = r.made := by have := congrArg Req.made h; exact this
  have e4 : r'.most = r.most := by have := congrArg Req.most h; exact this
  have e5 : r'.id = r.id := by have := congrArg Req.id h; exact this
  have e6 : r'.deadline = r.deadline := by have := congrArg Req.deadline h; exact this
  have e7 : r'.prompt = r.prompt := by have := congrArg Req.prompt h; exact this
  have e8 : r'.ended = r.ended := by have := congrArg Req.ended h; exact this
  have e9 : r'.err = r.err := by have := congrArg Req.err h; exact this
  have e10 : r'.kept = r.kept := by have := congrArg Req.kept h; exact this
  have hn : nextTok M r' = nextTok M r := by unfold nextTok; rw [e1, e2, e3]
  refine ⟨hn, ?_, ?_, ?_⟩
  · unfold stops; rw [hn, e3, e4]
  · unfold core madeReq; simp only [hn, e1, e2, e3, e4, e5, e6, e7, e8, e9, e10]
  · unfold core finReq madeReq; simp only [hn, e1, e2, e3, e4, e5, e6, e7, e8, e9, e10]
theorem core_ended {r r' : Req} (h : core r' = core r) : r'.ended = r.ended := by have := congrArg Req.ended h; exact this
theorem next_req (s : Srv) (i : Nat) (hi : i < s.reqs.length) (hy : (s.req i).ended = false) : Stat s (s.next i) ∧ RStep s.M (s.req i) ((s.next i).req i) ∧ ∀ j, j ≠ i → (s.next i).req j = s.req j := by
  rw [next_eq s i hi]
  by_cases h : stops s.M (s.req i)
  · rw [if_pos h]
    refine ⟨⟨rfl, rfl, rfl, rfl, rfl, rfl, rfl, Srv.setReq_length _ _ _⟩, ?_, fun j hj => ?_⟩
    · rw [Srv.req_setReq _ _ _ _ (by exact hi), if_pos rfl]
      exact Or.inr (Or.inr ⟨hy, h, rfl⟩)
    · rw [Srv.req_setReq _ _ _ _ (by exact hi), if_neg (Ne.symm hj)]
      rfl
  · rw [if_neg h]
    refine ⟨Stat.setReq _ _ _, ?_, fun j hj => ?_⟩
    · rw [Srv.req_setReq _ _ _ _ hi, if_pos rfl]
      exact Or.inr (Or.inl ⟨hy, h, rfl⟩)
    · rw [Srv.req_setReq _ _ _ _ hi, if_neg (Ne.symm hj)]
theorem work_ok {s : Srv} (hs : s.Ok) (i : Nat) (hi : i < s.reqs.length) (b : List Nat) (hb : ∀ i ∈ b, i < s.reqs.length) (hib : i ∉ b) (hy : (s.req i).ended = false) :
    (s.work i b).Ok ∧ Stat s (s.work i b) ∧ RStep s.M (s.req i) ((s.work i b).req i) ∧ ∀ j, j ≠ i → core ((s.work i b).req j) = core (s.req j) := by
  obtain ⟨a1, a2, a3⟩ := share_ok s hs i hi
  unfold Srv.work Srv.work2
  generalize s.share i = s1 at *
  have hi1 : i < s1.reqs.length := by rw [a2.nreqs]; exact hi
  have hc := a2.core i
  split
  · rename_i hlt
    obtain ⟨b1, b2⟩ := compute_ok a1 i hi1 b (fun j hj => by rw [a2.nreqs]; exact hb j hj) hib hlt
    exact ⟨b1, (a2.trans b2).stat, Or.inl ((b2.core i).trans hc), fun j _ => (b2.core j).trans (a2.core j)⟩
  · have hy1 : (s1.req i).ended = false := by rw [core_ended hc]; exact hy
    obtain ⟨c1, c2, c3⟩ := next_req s1 i hi1 hy1
    refine ⟨next_ok a1 i hi1 hy1, a2.stat.trans c1, ?_, fun j hj => by rw [c3 j hj]; exact a2.core j⟩
    obtain ⟨n1, n2, n3, n4⟩ := core_next s.M hc
    rw [a2.M] at c2
    rcases c2 with h | ⟨h1, h2, h3⟩ | ⟨h1, h2, h3⟩
    · exact Or.inl (h.trans hc)
    · exact Or.inr (Or.inl ⟨hy, fun h => h2 (n2.2 h), h3.trans n3⟩)
    · exact Or.inr (Or.inr ⟨hy, n2.1 h2, h3.trans n4⟩)

theorem late1_ok {s : Srv} (hs : s.Ok) (i : Nat) (hi : i < s.reqs.length) :
    (s.late1 i).Ok ∧ Stat s (s.late1 i) ∧ (core ((s.late1 i).req i) = if (s.req i).deadline < s.now then core (lateReq (s.req i)) else core (s.req i)) ∧ ∀ j, j ≠ i → (s.late1 i).req j = s.req j := by
  have hr := hs.reqs i hi
  have h1 : (s.setReq i { s.req i with worked := false, lost := false }).Ok := hs.setReq i hi _ rfl ⟨hr.id, hr.dl, hr.prompt, hr.most, hr.seed, hr.made, hr.yet, hr.tokens, hr.toks, hr.holds, hr.ent, hr.last, hr.few, hr.kept⟩
  have hrq : (s.setReq i { s.req i with worked := false, lost := false }).req i = { s.req i with worked := false, lost := false } := by rw [Srv.req_setReq _ _ _ _ hi, if_pos rfl]
  unfold Srv.late1
  split
  · have hi1 : i < (s.setReq i { s.req i with worked := false, lost := false }).reqs.length := by rw [Srv.setReq_length]; exact hi
    refine ⟨h1.end_ i hi1 18, ⟨rfl, rfl, rfl, rfl, rfl, rfl, rfl, by rw [Srv.end_length, Srv.setReq_length]⟩, ?_, fun j hj => ?_⟩
    · unfold Srv.end_
      rw [giveBack_setReq, Srv.req_setReq _ _ _ _ (by exact hi1), if_pos rfl, hrq]
      rfl
    · unfold Srv.end_
      rw [giveBack_setReq, Srv.req_setReq _ _ _ _ (by exact hi1), if_neg (Ne.symm hj)]
      show (s.setReq i _).req j = s.req j
      rw [Srv.req_setReq _ _ _ _ hi, if_neg (Ne.symm hj)]
  · refine ⟨h1, Stat.setReq _ _ _, ?_, fun j hj => ?_⟩
    · rw [hrq]; rfl
    · rw [Srv.req_setReq _ _ _ _ hi, if_neg (Ne.symm hj)]
end Go.Proofs.YtedkfehdfmimoaaGreat

namespace Go.Proofs.YtedkfehdfmimoaaGreat
open Go.RowKit

set_option maxHeartbeats 400000 in
theorem full_no (w : World) (own : Nat → Slot) (P : Ptrs) (s : Srv) (h : Rep w own P s) (hr : s.records < 20000) :
    Calls Tryz.prog 34 #[.pointer (some ⟨P.sa, 0, none⟩)] w fun e w' => e = .returned (.bool false) ∧ w = w' := by
  have c : w.cell? ⟨P.sa, 20, none⟩ = some (.int .i64 s.records) := h.server.cell 20
  have hr' : ¬ (20000 : Int) ≤ s.records := by omega
  go_enter Tryz.func34, Tryz.ntmps34
  go_wp2_with fail
  go_ret
  exact ⟨by simp [hr'], rfl⟩
set_option maxHeartbeats 400000 in
theorem now_any (w : World) (own : Nat → Slot) (P : Ptrs) (s : Srv) (h : Rep w own P s) :
    Calls Tryz.prog 12 #[.pointer (some ⟨P.sa, 0, none⟩)] w fun e w' => e = .returned (.int .i64 s.now) ∧ w = w' := by
  have c : w.cell? ⟨P.sa, 16, none⟩ = some (.int .i64 s.now) := h.server.cell 16
  go_enter Tryz.func12, Tryz.ntmps12
  go_wp2_with fail
  go_ret
  exact ⟨rfl, rfl⟩
end Go.Proofs.YtedkfehdfmimoaaGreat

namespace Go.Proofs.YtedkfehdfmimoaaGreat
open Go.RowKit

theorem Srv.Ok.later {s : Srv} (h : s.Ok) (hn : s.now ≤ s.records) : ({ s with now := s.now + 1 }).Ok :=
  ⟨h.M, h.kind, h.c, h.npages, h.nreqs, h.distinct, fun i hi => (h.reqs i hi).move rfl rfl rfl (Nat.le_refl _), h.ptok, h.records, Nat.succ_le_succ hn, h.log⟩
def lateTo (s : Srv) (L : List Nat) (k : Nat) : Srv := (L.take k).foldl Srv.late1 s
theorem lateTo_succ (s : Srv) (L : List Nat) (k : Nat) (h : k < L.length) : lateTo s L (k + 1) = (lateTo s L k).late1 L[k] := by
  unfold lateTo
  rw [List.take_succ_eq_append_getElem h, List.foldl_append]
  rfl
theorem lateTo_ok {s : Srv} (hs : s.Ok) (L : List Nat) (hL : ∀ i ∈ L, i < s.reqs.length) : ∀ k, k ≤ L.length → (lateTo s L k).Ok ∧ Stat s (lateTo s L k) := by
  intro k
  induction k with
  | zero => intro _; exact ⟨hs, Stat.refl s⟩
  | succ k ih =>
    intro hk
    obtain ⟨a, b⟩ := ih (by omega)
    rw [lateTo_succ s L k (by omega)]
    have hi : L[k]'(by omega) < (lateTo s L k).reqs.length := by rw [b.nreqs]; exact hL _ (List.getElem_mem _)
    obtain ⟨c, d, -⟩ := late1_ok a _ hi
    exact ⟨c, b.trans d⟩
theorem Rep.setNow {w : World} {own : Nat → Slot} {P : Ptrs} {s : Srv} (h : Rep w own P s) (n : Nat) : Rep (w.setCell ⟨P.sa, 16, none⟩ (.int .i64 n)) own P { s with now := n } :=
  h.setServer 16 _ { s with now := n } rfl rfl rfl rfl rfl
theorem Step.server {w : World} {own : Nat → Slot} {P : Ptrs} {s : Srv} (h : Rep w own P s) (j : Nat) (u : Value) (m : Nat) : Step w own P (w.setCell ⟨P.sa, j, none⟩ u) own P m :=
  ⟨Keeps.setCell (Keeps.refl _ _) (p := ⟨P.sa, j, none⟩) (fun _ => by show _ ≠ _; rw [h.oserver]; intro e; cases e) _, fun _ _ => rfl, rfl, fun _ _ => rfl, rfl, rfl⟩
set_option maxRecDepth 100000 in
set_option maxHeartbeats 4000000 in
theorem tick_any (w : World) (own : Nat → Slot) (P : Ptrs) (s : Srv) (h : Rep w own P s) (hs : s.Ok) (hnow : s.now ≤ s.records) (hrec : s.records ≤ 9000) (m : Nat) (hm : s.reqs.length ≤ m) :
    Calls Tryz.prog 14 #[.pointer (some ⟨P.sa, 0, none⟩)] w fun e w' => e = .returned (.int .i64 0) ∧ ∃ own' P', Rep w' own' P' s.tick ∧ Step w own P w' own' P' m := by
  have hf := full_no w own P s h (by omega)
  have c16 : w.cell? ⟨P.sa, 16, none⟩ = some (.int .i64 s.now) := h.scell 16
  have f16 := h.sfree 16
  have h1 := h.setNow (s.now + 1)
  have st1 := Step.server h 16 (.int .i64 ((s.now + 1 : Nat) : Int)) m
  rw [show ((s.now + 1 : Nat) : Int) = (s.now : Int) + 1 from by omega] at h1 st1
  have hs0 := hs.later hnow
  have HT : Hid (s.tick = (s.tick2.rec_ [4]).settle ∧ s.tick2 = Srv.workL s.tick1.open_ 0 s.tick1 ∧ s.tick1 = lateTo { s with now := s.now + 1 } ({ s with now := s.now + 1 } : Srv).open_ ({ s with now := s.now + 1 } : Srv).open_.length) := by
    refine And.intro rfl (And.intro rfl ?_)
    unfold lateTo
    rw [List.take_length]
    rfl
  have hnb : s.now ≤ 10000 := by omega
  have HS := Lib.hid hs
  have HF := Lib.hid hf
  have H1 := Lib.hid h1
  have ST1 := Lib.hid st1
  have HM := Lib.hid hm
  have HR := Lib.hid hrec
  clear hf h1 st1 hs h hnow hrec hm
  generalize s.tick = res at *
  have HS0 := Lib.hid hs0
  generalize hs0e : ({ s with now := s.now + 1 } : Srv) = s0 at *
  have HS0E := Lib.hid hs0e
  clear hs0 hs0e
  go_enter Tryz.func14, Tryz.ntmps14
  go_wp2_with fail
  refine HF.out.mono ?_
  rintro e w' ⟨rfl, rfl⟩
  go_upto_region 4 with (fail)
  have h1 := H1.out
  have st1 := ST1.out
  clear H1 ST1 c16 f16 HF
  generalize w.setCell ⟨P.sa, 16, none⟩ (.int .i64 ((s.now : Int) + 1)) = w1 at *
  have H1 := Lib.hid h1
  have ST1 := Lib.hid st1
  have HOP := Lib.hid (open_any w1 own P s0 h1 HS0.out.distinct HS0.out.nreqs)
  have HL := Lib.hid s0.open_lt
  have hln : s0.open_.length ≤ 12 := Nat.le_trans s0.open_length HS0.out.nreqs
  clear h1 st1
  obtain ⟨L, hL⟩ : ∃ L, L = s0.open_ := ⟨_, rfl⟩
  rw [← hL] at HOP HL hln
  have HLE := Lib.hid hL
  clear hL
  go_wp2_with fail
  refine HOP.out.mono ?_
  rintro e w2 ⟨v, rfl, ho, hb2⟩
  obtain ⟨n, hn⟩ : ∃ n, n = L.length := ⟨_, rfl⟩
  rw [← hn] at ho hln
  obtain ⟨B, c, rfl, -, -⟩ := ho.shape
  have hbr : Reads w2 (own · = .other) 1 B n (ptrs P.rb L) := ho.reads.more fun g _ hg => H1.out.beyond g hg
  have h2 := H1.out.fresh hb2
  have st2 := ST1.out.tr (Step.fresh hb2 own P m)
  have HBR := Lib.hid hbr
  have H2 := Lib.hid h2
  have ST2 := Lib.hid st2
  have HN := Lib.hid hn
  clear ho hb2 hbr h2 st2 hn HOP
  go_wp2_with fail
  have hs0m : s0.reqs.length ≤ m := by rw [← HS0E.out]; exact HM.out
  have HS0M := Lib.hid hs0m
  clear hs0m
  go_loopw [4, 21] (fun _ x wr => ∃ (k : Nat) (own1 : Nat → Slot) (P1 : Ptrs), k ≤ n ∧ x = .int .i64 k ∧ Rep wr own1 P1 (lateTo s0 L k) ∧ Step w own P wr own1 P1 m ∧ Reads wr (own1 · = .other) 1 B n (ptrs P1.rb L)) (fun _ x _ => n - (intOf x).toNat)
  case atStart => exact ⟨0, own, P, by omega, rfl, H2.out, ST2.out, HBR.out⟩
  obtain ⟨k, own1, P1, hk, rfl, h1, st1, hbr1⟩ := hrel
  have hok1 := lateTo_ok HS0.out L HL.out k (by rw [← HN.out]; exact hk)
  have hsa := st1.sa
  by_cases hlt : k < n
  · have hkl : k < L.length := by rw [← HN.out]; exact hlt
    obtain ⟨ad, u, rfl, -, -, hu, hcT⟩ := hbr1.at_ hlt
    rw [ptrs_get _ _ _ hkl] at hu
    injection hu with hu
    subst hu
    have HSU := Lib.hid (lateTo_succ s0 L k hkl)
    have hil0 := HL.out _ (List.getElem_mem hkl)
    generalize L[k] = i at *
    generalize lateTo s0 L k = sk at *
    have hil : i < sk.reqs.length := by rw [hok1.2.nreqs]; exact hil0
    have him : i < m := Nat.lt_of_lt_of_le hil0 HS0M.out
    have hrb := st1.rb i him
    have hir := sk.req_get i hil
    have c12 := h1.rcell i _ hir 12
    have c13 := h1.rcell i _ hir 13
    have f12 := h1.rfree i hil 12
    have f13 := h1.rfree i hil 13
    obtain ⟨h2, st2⟩ := h1.reqSame i 12 _ { sk.req i with worked := false } hir rfl rfl rfl rfl (u := .bool false) rfl m
    have hir2 : (sk.setReq i { sk.req i with worked := false }).reqs[i]? = some { sk.req i with worked := false } := List.getElem?_set_self hil
    obtain ⟨h3, st3⟩ := h2.reqSame i 13 _ { sk.req i with worked := false, lost := false } hir2 rfl rfl rfl rfl (u := .bool false) rfl m
    rw [set_setReq] at h3
    have c12' : wr.cell? ⟨P1.rb i, 12, none⟩ = some (.bool (sk.req i).worked) := c12
    have c13' : wr.cell? ⟨P1.rb i, 13, none⟩ = some (.bool (sk.req i).lost) := c13
    have hbr3 := (st2.tr st3).behind (fun j hj => Nat.lt_of_lt_of_le (HL.out j hj) HS0M.out) hbr1
    have H3 := Lib.hid h3
    have ST3 := Lib.hid (st1.tr (st2.tr st3))
    have HBR3 := Lib.hid hbr3
    have HRB := Lib.hid hrb
    have HSA := Lib.hid hsa
    have HIL := Lib.hid hil
    have HIM := Lib.hid him
    have HOK1 := Lib.hid hok1
    clear hir2 h2 st2 h3 st3 hir c12 c13 h1 st1 hbr1 hbr3 hrb hsa hil0 hkl hil him hok1
    go_upto_region 8 with (fail)
    have h3 := H3.out
    have st3 := ST3.out
    have hbr3 := HBR3.out
    clear H3 ST3 HBR3 c12' c13' f12 f13 hcT
    generalize (wr.setCell ⟨P1.rb i, 12, none⟩ (.bool false)).setCell ⟨P1.rb i, 13, none⟩ (.bool false) = w3 at *
    have hi3 : i < (sk.setReq i { sk.req i with worked := false, lost := false }).reqs.length := by rw [Srv.setReq_length]; exact HIL.out
    have hir3 : (sk.setReq i { sk.req i with worked := false, lost := false }).reqs[i]? = some { sk.req i with worked := false, lost := false } := List.getElem?_set_self HIL.out
    have hrq3 : (sk.setReq i { sk.req i with worked := false, lost := false }).req i = { sk.req i with worked := false, lost := false } := by rw [Srv.req_setReq _ _ _ _ HIL.out, if_pos rfl]
    have e1 : w3.cell? ⟨P1.rb i, 1, none⟩ = some (.int .i64 (sk.req i).deadline) := h3.rcell i _ hir3 1
    have e16 : w3.cell? ⟨P.sa, 16, none⟩ = some (.int .i64 sk.now) := by rw [← HSA.out]; exact h3.scell 16
    have hend := fun n => end_any (w3.drewN n) own1 P1 _ (h3.drewN n) i hi3 (by rw [hrq3]; exact (HOK1.out.1.reqs i HIL.out).holds) 18 m HIM.out
    rw [HSA.out] at hend
    have HEND := Lib.hid hend
    have H3 := Lib.hid h3
    have ST3 := Lib.hid st3
    have HBR3 := Lib.hid hbr3
    obtain ⟨dl, hdl⟩ : ∃ dl, dl = (sk.req i).deadline := ⟨_, rfl⟩
    obtain ⟨nw, hnw⟩ : ∃ nw, nw = sk.now := ⟨_, rfl⟩
    rw [← hdl] at e1
    rw [← hnw] at e16
    have HL1 : Hid (lateTo s0 L (k + 1) = if dl < nw then (sk.setReq i { sk.req i with worked := false, lost := false }).end_ i 18 else sk.setReq i { sk.req i with worked := false, lost := false }) := by
      show _ = _
      rw [HSU.out, hdl, hnw]; rfl
    have HMB : Hid (∀ i ∈ L, i < m) := fun j hj => Nat.lt_of_lt_of_le (HL.out j hj) HS0M.out
    clear h3 st3 hbr3 hi3 hir3 hrq3 hend hdl hnw
    by_cases hd : dl < nw
    · have hd' : decide (dl < (nw : Int)) = true := by simpa using hd
      go_quiet (fail)
      go_wp2_with fail
      refine (HEND.out nq).mono ?_
      rintro e w4 ⟨rfl, own4, P4, h4, st4⟩
      have H4 := Lib.hid h4
      have ST4 := Lib.hid st4
      clear h4 st4
      go_wp2_with fail
      go_roundw
      case rel =>
        refine ⟨k + 1, own4, P4, by omega, by go_num, ?_, (ST3.out.drewN nq).tr ST4.out, ST4.out.behind HMB.out (HBR3.out.drewN nq)⟩
        rw [HL1.out, if_pos hd]
        exact H4.out
      case measure => simp [intOf]; omega
    · have hd' : decide (dl < (nw : Int)) = false := by simpa using hd
      go_quiet (fail)
      go_wp2_with fail
      go_roundw
      case rel =>
        refine ⟨k + 1, own1, P1, by omega, by go_num, ?_, ST3.out.drewN nq, HBR3.out.drewN nq⟩
        rw [HL1.out, if_neg hd]
        exact H3.out.drewN nq
      case measure => simp [intOf]; omega
  · obtain rfl : k = n := by omega
    have ht1 : lateTo s0 L k = s.tick1 := by rw [HT.out.2.2, HN.out, HLE.out]
    rw [ht1] at h1 hok1
    obtain ⟨hok1, hstat1⟩ := hok1
    have hop := open_any wr own1 P1 s.tick1 h1 hok1.distinct hok1.nreqs
    rw [hsa] at hop
    have HOP := Lib.hid hop
    have HL2 := Lib.hid s.tick1.open_lt
    have hln2 : s.tick1.open_.length ≤ 12 := Nat.le_trans s.tick1.open_length hok1.nreqs
    have hbat := hok1.c.batch
    have H1 := Lib.hid h1
    have ST1 := Lib.hid st1
    have HOK1 := Lib.hid hok1
    have HST1 := Lib.hid hstat1
    have HSA := Lib.hid hsa
    have HTW : Hid (s.tick2 = Srv.workL s.tick1.open_ 0 s.tick1) := Lib.hid HT.out.2.1
    have HTR : Hid (res = (s.tick2.rec_ [4]).settle) := Lib.hid HT.out.1
    have hopen : ∀ i ∈ s.tick1.open_, (s.tick1.req i).ended = false := by
      intro i hi
      rw [Srv.open_eq] at hi
      exact ((s.tick1.openList_mem i).1 ((isort_perm _ _).mem_iff.1 hi)).2
    have hnod : s.tick1.open_.Nodup := by
      rw [Srv.open_eq]
      exact (isort_perm _ _).nodup_iff.2 (by unfold Srv.openList; exact List.Pairwise.filter _ List.nodup_range)
    have HOPEN := Lib.hid hopen
    have HNOD := Lib.hid hnod
    clear ht1 h1 st1 hbr1 hok1 hstat1 hsa hop hopen hnod HT HBR H2 ST2
    generalize s.tick1 = t1 at *
    generalize s.tick2 = t2 at *
    obtain ⟨L2, hL2⟩ : ∃ L2, L2 = t1.open_ := ⟨_, rfl⟩
    rw [← hL2] at HOP HL2 hln2 HTW HOPEN HNOD
    clear hL2
    go_wp2_with fail
    refine HOP.out.mono ?_
    rintro e w3 ⟨v, rfl, ho, hb3⟩
    obtain ⟨n2, hn2⟩ : ∃ n2, n2 = L2.length := ⟨_, rfl⟩
    rw [← hn2] at ho hln2
    obtain ⟨B2, c2, rfl, hc2, -⟩ := ho.shape
    have hbr : Reads w3 (own1 · = .other) 1 B2 n2 (ptrs P1.rb L2) := ho.reads.more fun g _ hg => H1.out.beyond g hg
    have HBR := Lib.hid hbr
    have H3 := Lib.hid (H1.out.fresh hb3)
    have ST3 := Lib.hid (ST1.out.tr (Step.fresh hb3 own1 P1 m))
    have HN2 := Lib.hid hn2
    clear ho hb3 hbr hn2 HOP
    have hstart : t1.Ok ∧ Stat t1 t1 ∧ Srv.workL (L2.drop 0) 0 t1 = t2 ∧ (∀ q i, 0 ≤ q → L2[q]? = some i → (t1.req i).ended = false) ∧ 0 ≤ 0 := ⟨HOK1.out, Stat.refl _, HTW.out.symm, fun q i _ h => HOPEN.out i (List.mem_of_getElem? h), Nat.le_refl 0⟩
    have HSTART := Lib.hid hstart
    clear hstart
    go_wp2_with fail
    go_loopw [5, 7, 8, 49] (fun x5 _ _ x wr => ∃ (k nw : Nat) (own4 : Nat → Slot) (P4 : Ptrs) (s4 : Srv), k ≤ n2 ∧ x = .int .i64 k ∧ x5 = .int .i64 nw ∧ Rep wr own4 P4 s4 ∧ Step w own P wr own4 P4 m ∧ Reads wr (own4 · = .other) 1 B2 n2 (ptrs P4.rb L2) ∧
      Hid (s4.Ok ∧ Stat t1 s4 ∧ Srv.workL (L2.drop k) nw s4 = t2 ∧ (∀ q i, k ≤ q → L2[q]? = some i → (s4.req i).ended = false) ∧ nw ≤ k)) (fun _ _ _ x _ => n2 - (intOf x).toNat)
    case atStart => exact ⟨0, 0, own1, P1, t1, by omega, rfl, rfl, H3.out, ST3.out, HBR.out, HSTART.out⟩
    obtain ⟨k2, nw, own4, P4, s4, hk2, rfl, rfl, h4, st4, hbr4, HX⟩ := hrel
    have hsa4 := st4.sa
    have c13 : wr.cell? ⟨P.sa, 13, none⟩ = some (.int .i64 s4.c.batch) := by rw [← hsa4]; exact h4.scell 13
    by_cases hlt : k2 < n2
    · have hkl : k2 < L2.length := by rw [← HN2.out]; exact hlt
      obtain ⟨ad, u, rfl, hadT, -, hu, hcT⟩ := hbr4.at_ hlt
      rw [ptrs_get _ _ _ hkl] at hu
      injection hu with hu
      subst hu
      have hdrop : L2.drop k2 = L2[k2] :: L2.drop (k2 + 1) := List.drop_eq_getElem_cons hkl
      have hil0 := HL2.out _ (List.getElem_mem hkl)
      have hig : L2[k2]? = some L2[k2] := List.getElem?_eq_getElem hkl
      have hnb : L2[k2] ∉ L2.drop (k2 + 1) := by
        have := HNOD.out
        rw [← List.take_append_drop k2 L2, hdrop] at this
        exact (List.nodup_cons.1 (List.nodup_append.1 this).2.1).1
      generalize L2[k2] = i at *
      have HDROP := Lib.hid hdrop
      have HIG := Lib.hid hig
      have HNB := Lib.hid hnb
      clear hdrop hig hnb hkl
      have hil : i < s4.reqs.length := by rw [HX.out.2.1.nreqs]; exact hil0
      have him : i < m := Nat.lt_of_lt_of_le hil0 (by rw [HST1.out.nreqs]; exact HS0M.out)
      have hrb := st4.rb i him
      have hir := s4.req_get i hil
      by_cases hbt : s4.c.batch ≤ nw
      · have hreca := record_any (wr.alloc (.cells #[.int .i64 4] 3)) own4 P4 s4 (h4.alloc _) (· = wr.heap.size) (.slice (some ⟨wr.heap.size, 0, none⟩) 1 1) 4 [] (lit_slc wr 3 [4] 1 rfl (by decide)) ⟨by omega, by omega⟩ (fun _ h => by cases h) (by simp) (by have := HX.out.1.records; omega) (by have := HX.out.1.records; have := HX.out.1.log; omega) m
        rw [hsa4] at hreca
        have HREC := Lib.hid hreca
        have H4 := Lib.hid h4
        have ST4 := Lib.hid st4
        have HFIN : Hid (s4 = t2) := by
          show _ = _
          rw [← HX.out.2.2.1, HDROP.out]
          simp only [Srv.workL]
          rw [if_pos hbt]
        clear hreca h4 st4 hbr4
        go_wp2_with fail
        refine HREC.out.mono ?_
        rintro e w5 ⟨rfl, own5, P5, h5, st5⟩
        have hsett := settle_any w5 own5 P5 (s4.rec_ [4]) h5 (fun i j hi hj e => HX.out.1.distinct i j hi hj e) m
        rw [st5.sa, hsa4] at hsett
        have HSETT := Lib.hid hsett
        have ST5 := Lib.hid st5
        clear h5 st5 hsett
        go_wp2_with fail
        refine HSETT.out.mono ?_
        rintro e w6 ⟨rfl, h6, st6⟩
        have H6 := Lib.hid h6
        have ST6 := Lib.hid st6
        clear h6 st6
        go_wp2_with fail
        go_ret
        exact ⟨rfl, own5, P5, by rw [HTR.out, ← HFIN.out]; exact H6.out, ((ST4.out.tr (Step.fresh ((Below.refl _ _).alloc (Nat.le_refl _) _) own4 P4 m)).tr ST5.out).tr ST6.out⟩
      · have q13 : wr.cell? ⟨P4.rb i, 13, none⟩ = some (.bool (s4.req i).lost) := h4.rcell i _ hir 13
        obtain ⟨lo, hlo⟩ : ∃ lo, lo = (s4.req i).lost := ⟨_, rfl⟩
        rw [← hlo] at q13
        have HLO := Lib.hid hlo
        have HBT := Lib.hid hbt
        have HRB := Lib.hid hrb
        have H4 := Lib.hid h4
        have ST4 := Lib.hid st4
        have HBR4 := Lib.hid hbr4
        have HSA4 := Lib.hid hsa4
        have HIR := Lib.hid hir
        have hbt' : nw < s4.c.batch := by omega
        have HIL := Lib.hid hil
        have HIM := Lib.hid him
        clear hlo hbt h4 st4 hbr4 hrb hsa4 hir hil him hil0
        cases lo
        · have hok4 := HX.out.1
          obtain ⟨b, hbd⟩ : ∃ b, b = L2.drop (k2 + 1) := ⟨_, rfl⟩
          have hblen : b.length = n2 - (k2 + 1) := by rw [hbd, List.length_drop, ← HN2.out]
          have hbm : ∀ j ∈ b, j < s4.reqs.length := fun j hj => by rw [HX.out.2.1.nreqs]; rw [hbd] at hj; exact HL2.out j (List.mem_of_mem_drop hj)
          have hyet : (s4.req i).ended = false := HX.out.2.2.2.1 k2 i (Nat.le_refl _) HIG.out
          have hm4 : s4.reqs.length ≤ m := by rw [HX.out.2.1.nreqs, HST1.out.nreqs]; exact HS0M.out
          have hib : i ∉ b := by rw [hbd]; exact HNB.out
          have hwork := fun (A' : Option Addr) (cc : Nat) (hr : Reads wr (own4 · = .other) 1 A' b.length (ptrs P4.rb b)) (hcc : b.length ≤ cc) => work_any wr own4 P4 s4 H4.out hok4 i HIL.out b hbm hib A' cc hr m hm4 (by omega) hcc hyet
          rw [HSA4.out, hblen] at hwork
          have hcut : Reads wr (own4 · = .other) 1 (if c2 = k2 + 1 then some ad else (some ad : Option Addr).map (·.add (k2 + 1))) (n2 - (k2 + 1)) (ptrs P4.rb b) := by
            have := HBR4.out.cut (k := k2 + 1) (cap := c2) (by omega) hc2
            rw [Nat.mul_one] at this
            have e : (ptrs P4.rb L2).drop (k2 + 1) = ptrs P4.rb b := by rw [hbd]; simp [ptrs, List.map_drop]
            rw [e] at this
            exact this
          have hwk := work_ok hok4 i HIL.out b hbm hib hyet
          have hnext : ∀ nw', nw' = (if ((s4.work i b).req i).worked then nw + 1 else nw) → (s4.work i b).Ok ∧ Stat t1 (s4.work i b) ∧ Srv.workL (L2.drop (k2 + 1)) nw' (s4.work i b) = t2 ∧ (∀ q j, k2 + 1 ≤ q → L2[q]? = some j → ((s4.work i b).req j).ended = false) ∧ nw' ≤ k2 + 1 := by
            intro nw' e
            refine ⟨hwk.1, HX.out.2.1.trans hwk.2.1, ?_, fun q j hq h => ?_, ?_⟩
            · rw [← HX.out.2.2.1, HDROP.out, e, hbd]
              simp only [Srv.workL]
              rw [if_neg HBT.out, if_neg (show ¬ (s4.req i).lost = true by rw [← HLO.out]; exact Bool.false_ne_true)]
            · have hj : j ∈ b := by
                rw [hbd]
                refine List.mem_of_getElem? (i := q - (k2 + 1)) ?_
                rw [List.getElem?_drop, show k2 + 1 + (q - (k2 + 1)) = q by omega]
                exact h
              rw [core_ended (hwk.2.2.2 j (fun e => hib (e ▸ hj)))]
              exact HX.out.2.2.2.1 q j (by omega) h
            · rw [e]
              have := HX.out.2.2.2.2
              split <;> omega
          have HNEXT := Lib.hid hnext
          have HWORK := Lib.hid hwork
          have HCUT := Lib.hid hcut
          have hlen4 : (s4.work i b).reqs.length = s4.reqs.length := hwk.2.1.nreqs
          have HLEN4 := Lib.hid hlen4
          have HMB2 : Hid (∀ j ∈ L2, j < m) := fun j hj => Nat.lt_of_lt_of_le (HL2.out j hj) (by rw [HST1.out.nreqs]; exact HS0M.out)
          clear hok4 hblen hbm hyet hm4 hib hwork hcut hwk hnext hbd hlen4
          generalize s4.work i b = s5 at *
          have hk3 : (k2 : Int) + 1 ≤ n2 := by omega
          have hk4 : (k2 : Int) + 1 ≤ c2 := by omega
          by_cases hcc : c2 = k2 + 1
          · have hcutc := HCUT.out
            rw [if_pos hcc] at hcutc
            subst hcc
            have hw := HWORK.out _ 0 hcutc (by omega)
            rw [show n2 - (k2 + 1) = 0 by omega] at hw
            have HW := Lib.hid hw
            clear hw hcutc
            go_wp2_with fail
            refine HW.out.mono ?_
            rintro e w5 ⟨rfl, own5, P5, h5, st5⟩
            have hil5 : i < s5.reqs.length := by rw [HLEN4.out]; exact HIL.out
            have e12 : w5.cell? ⟨P4.rb i, 12, none⟩ = some (.bool (s5.req i).worked) := by rw [← st5.rb i HIM.out]; exact h5.rcell i _ (s5.req_get i hil5) 12
            obtain ⟨wk, hwk⟩ : ∃ wk, wk = (s5.req i).worked := ⟨_, rfl⟩
            rw [← hwk] at e12
            have HWKD := Lib.hid hwk
            have H5 := Lib.hid h5
            have ST5 := Lib.hid st5
            clear hwk h5 st5 hil5
            have hnw : nw ≤ 12 := by have := HX.out.2.2.2.2; omega
            cases wk
            · go_wp2_with fail
              go_roundw
              case rel => exact ⟨k2 + 1, nw, own5, P5, s5, by omega, by go_num, rfl, H5.out, ST4.out.tr ST5.out, ST5.out.behind HMB2.out HBR4.out, HNEXT.out nw (by rw [← HWKD.out]; rfl)⟩
              case measure => simp [intOf]; omega
            · go_wp2_with fail
              go_roundw
              case rel => exact ⟨k2 + 1, nw + 1, own5, P5, s5, by omega, by go_num, by go_num, H5.out, ST4.out.tr ST5.out, ST5.out.behind HMB2.out HBR4.out, HNEXT.out (nw + 1) (by rw [← HWKD.out]; rfl)⟩
              case measure => simp [intOf]; omega
          · have hcutc := HCUT.out
            rw [if_neg hcc] at hcutc
            have hw := HWORK.out _ (c2 - (k2 + 1)) hcutc (by omega)
            have HW := Lib.hid hw
            clear hw hcutc
            go_wp2_with fail
            refine HW.out.mono ?_
            rintro e w5 ⟨rfl, own5, P5, h5, st5⟩
            have hil5 : i < s5.reqs.length := by rw [HLEN4.out]; exact HIL.out
            have e12 : w5.cell? ⟨P4.rb i, 12, none⟩ = some (.bool (s5.req i).worked) := by rw [← st5.rb i HIM.out]; exact h5.rcell i _ (s5.req_get i hil5) 12
            obtain ⟨wk, hwk⟩ : ∃ wk, wk = (s5.req i).worked := ⟨_, rfl⟩
            rw [← hwk] at e12
            have HWKD := Lib.hid hwk
            have H5 := Lib.hid h5
            have ST5 := Lib.hid st5
            clear hwk h5 st5 hil5
            have hnw : nw ≤ 12 := by have := HX.out.2.2.2.2; omega
            cases wk
            · go_wp2_with fail
              go_roundw
              case rel => exact ⟨k2 + 1, nw, own5, P5, s5, by omega, by go_num, rfl, H5.out, ST4.out.tr ST5.out, ST5.out.behind HMB2.out HBR4.out, HNEXT.out nw (by rw [← HWKD.out]; rfl)⟩
              case measure => simp [intOf]; omega
            · go_wp2_with fail
              go_roundw
              case rel => exact ⟨k2 + 1, nw + 1, own5, P5, s5, by omega, by go_num, by go_num, H5.out, ST4.out.tr ST5.out, ST5.out.behind HMB2.out HBR4.out, HNEXT.out (nw + 1) (by rw [← HWKD.out]; rfl)⟩
              case measure => simp [intOf]; omega
        · go_wp2_with fail
          go_roundw
          case rel =>
            refine ⟨k2 + 1, nw, own4, P4, s4, by omega, by go_num, rfl, H4.out, ST4.out, HBR4.out, HX.out.1, HX.out.2.1, ?_, fun q j hq h => HX.out.2.2.2.1 q j (by omega) h, by have := HX.out.2.2.2.2; omega⟩
            rw [← HX.out.2.2.1, HDROP.out]
            simp only [Srv.workL]
            rw [if_neg HBT.out, if_pos (show (s4.req i).lost = true from HLO.out.symm)]
          case measure => simp [intOf]; omega
    · obtain rfl : k2 = n2 := by omega
      have hreca := record_any (wr.alloc (.cells #[.int .i64 4] 3)) own4 P4 s4 (h4.alloc _) (· = wr.heap.size) (.slice (some ⟨wr.heap.size, 0, none⟩) 1 1) 4 [] (lit_slc wr 3 [4] 1 rfl (by decide)) ⟨by omega, by omega⟩ (fun _ h => by cases h) (by simp) (by have := HX.out.1.records; omega) (by have := HX.out.1.records; have := HX.out.1.log; omega) m
      rw [hsa4] at hreca
      have HREC := Lib.hid hreca
      have H4 := Lib.hid h4
      have ST4 := Lib.hid st4
      have HFIN : Hid (s4 = t2) := by
        show _ = _
        rw [← HX.out.2.2.1, List.drop_of_length_le (by rw [← HN2.out]; exact Nat.le_refl _)]
        rfl
      clear hreca h4 st4 hbr4
      go_wp2_with fail
      refine HREC.out.mono ?_
      rintro e w5 ⟨rfl, own5, P5, h5, st5⟩
      have hsett := settle_any w5 own5 P5 (s4.rec_ [4]) h5 (fun i j hi hj e => HX.out.1.distinct i j hi hj e) m
      rw [st5.sa, hsa4] at hsett
      have HSETT := Lib.hid hsett
      have ST5 := Lib.hid st5
      clear h5 st5 hsett
      go_wp2_with fail
      refine HSETT.out.mono ?_
      rintro e w6 ⟨rfl, h6, st6⟩
      have H6 := Lib.hid h6
      have ST6 := Lib.hid st6
      clear h6 st6
      go_wp2_with fail
      go_ret
      exact ⟨rfl, own5, P5, by rw [HTR.out, ← HFIN.out]; exact H6.out, ((ST4.out.tr (Step.fresh ((Below.refl _ _).alloc (Nat.le_refl _) _) own4 P4 m)).tr ST5.out).tr ST6.out⟩
end Go.Proofs.YtedkfehdfmimoaaGreat

namespace Go.Proofs.YtedkfehdfmimoaaGreat
open Go.RowKit

def win (n lo hi : Int) : Bool := decide (lo ≤ n) && decide (n ≤ hi)
set_option maxHeartbeats 400000 in
theorem swithin_any (n lo hi : Int) (w : World) : Calls Tryz.prog 28 #[.int .i64 n, .int .i64 lo, .int .i64 hi] w fun e w' => e = .returned (.bool (win n lo hi)) ∧ w = w' := by
  have HW : Hid (win n lo hi = (decide (lo ≤ n) && decide (n ≤ hi))) := Lib.hid rfl
  generalize win n lo hi = b at *
  by_cases h1 : lo ≤ n
  · by_cases h2 : n ≤ hi
    · go_enter Tryz.func28, Tryz.ntmps28
      go_wp2
      go_ret
      exact ⟨by rw [HW.out]; simp [h1, h2], rfl⟩
    · go_enter Tryz.func28, Tryz.ntmps28
      go_wp2
      go_ret
      exact ⟨by rw [HW.out]; simp [h1, h2], rfl⟩
  · go_enter Tryz.func28, Tryz.ntmps28
    go_wp2
    go_ret
    exact ⟨by rw [HW.out]; simp; omega, rfl⟩
set_option maxHeartbeats 400000 in
theorem sword_any (n : Int) (w : World) : Calls Tryz.prog 61 #[.int .i64 n] w fun e w' => e = .returned (.bool (win n (-2147483648) 2147483647)) ∧ w = w' := by
  go_enter Tryz.func61, Tryz.ntmps61
  go_wp2_with (go_at_call 28; refine (swithin_any _ _ _ _).mono ?_; rintro e w' ⟨rfl, rfl⟩)
  go_ret
  exact ⟨rfl, rfl⟩
def badTok (v : Nat) (t : Int) : Bool := !decide (0 ≤ t ∧ t ≤ (v : Int) - 1)
set_option maxHeartbeats 400000 in
theorem acc1_any (w : World) (q sa v : Nat) (cs : Array Value) (kq : Blk w q 32 #[.pointer (some ⟨sa, 0, none⟩)]) (ks : Blk w sa 70 cs) (hc : cs[15]? = some (.int .i64 v)) (hv : v ≤ 1000000) (t : Int) :
    Calls Tryz.prog 63 #[.int .i64 t, .pointer (some ⟨q, 0, none⟩)] w fun e w' => e = .returned (.bool (badTok v t)) ∧ w = w' := by
  have c0 := kq.cell 0
  have c15 := (ks.cell 15).trans hc
  have HB : Hid (badTok v t = !win t 0 ((v : Int) - 1)) := by
    show _ = _
    unfold badTok win
    by_cases h1 : 0 ≤ t <;> by_cases h2 : t ≤ (v : Int) - 1 <;> simp [h1, h2]
  have HW := Lib.hid (fun w => swithin_any t 0 ((v : Int) - 1) w)
  generalize badTok v t = b at *
  generalize win t 0 ((v : Int) - 1) = b2 at *
  go_enter Tryz.func63, Tryz.ntmps63
  go_wp2_with (go_at_call 28; refine (HW.out _).mono ?_; rintro e w' ⟨rfl, rfl⟩)
  go_ret
  exact ⟨by rw [HB.out]; rfl, rfl⟩
set_option maxRecDepth 100000 in
set_option maxHeartbeats 1000000 in
theorem index_toks (w : World) (q sa v : Nat) (cs : Array Value) (kq : Blk w q 32 #[.pointer (some ⟨sa, 0, none⟩)]) (ks : Blk w sa 70 cs) (hc : cs[15]? = some (.int .i64 v)) (hv : v ≤ 1000000)
    (T : Nat → Prop) (A : Option Addr) (n c : Nat) (xs : List Int) (hr : Reads w T 1 A n (ints xs)) (hn : n ≤ 1000000) :
    Calls Tryz.prog 87 #[.slice A n c, .func (.func 63) #[] #[.pointer (some ⟨q, 0, none⟩)]] w fun e w' => (∃ k : Int, e = .returned (.int .i64 k) ∧ decide (0 ≤ k) = xs.any (badTok v)) ∧ w = w' := by
  have hl : xs.length = n := by have := hr.1; simp [ints] at this; omega
  have HL := Lib.hid hl
  have HC := Lib.hid (fun t => acc1_any w q sa v cs kq ks hc hv t)
  clear hl kq ks hc
  go_enter Tryz.func87, Tryz.ntmps87
  go_wp2_with fail
  go_loop [8] (fun i => ∃ k : Nat, k ≤ n ∧ i = .int .i64 k ∧ Hid (∀ j, j < k → ∀ x, xs[j]? = some x → badTok v x = false)) (fun i => n - (intOf i).toNat)
  case atStart => exact ⟨0, Nat.zero_le _, rfl, fun j h => absurd h (by omega)⟩
  case round =>
    obtain ⟨k, hk, rfl, HQ⟩ := hrel
    by_cases hlt : k < n
    · obtain ⟨ad, u, rfl, _, _, hu, hcx⟩ := hr.at_ hlt
      have hll : k < xs.length := by rw [HL.out]; exact hlt
      rw [ints_get xs _ hll] at hu
      injection hu with hu
      subst hu
      have hx := List.getElem?_eq_getElem hll
      generalize xs[k] = x at *
      have HX := Lib.hid hx
      have HCX := Lib.hid (HC.out x)
      obtain ⟨b, hb⟩ : ∃ b, b = badTok v x := ⟨_, rfl⟩
      rw [← hb] at HCX
      have HB := Lib.hid hb
      clear hx hb hll
      cases b
      · go_wp2_with (go_at_call 63; refine HCX.out.mono ?_; rintro e w' ⟨rfl, rfl⟩)
        go_round
        case rel =>
          refine ⟨k + 1, by omega, by go_num, ?_⟩
          intro j hj y hy
          by_cases e : j = k
          · subst e
            rw [HX.out] at hy
            injection hy with hy
            rw [← hy]; exact HB.out.symm
          · exact HQ j (by omega) y hy
        case measure => simp [intOf]; omega
      · go_wp2_with (go_at_call 63; refine HCX.out.mono ?_; rintro e w' ⟨rfl, rfl⟩)
        go_ret
        refine ⟨⟨k, rfl, ?_⟩, rfl⟩
        have : xs.any (badTok v) = true := List.any_eq_true.2 ⟨x, List.mem_of_getElem? HX.out, HB.out.symm⟩
        rw [this]; simp
    · obtain rfl : k = n := by omega
      go_wp2_with fail
      go_ret
      refine ⟨⟨-1, rfl, ?_⟩, rfl⟩
      have : xs.any (badTok v) = false := by
        rw [List.any_eq_false]
        intro x hx
        obtain ⟨j, hj, rfl⟩ := List.mem_iff_getElem.1 hx
        rw [HQ j (by rw [← HL.out]; exact hj) _ (List.getElem?_eq_getElem hj)]
        exact Bool.false_ne_true
      rw [this]; rfl
set_option maxHeartbeats 400000 in
theorem contains_toks (w : World) (q sa v : Nat) (cs : Array Value) (kq : Blk w q 32 #[.pointer (some ⟨sa, 0, none⟩)]) (ks : Blk w sa 70 cs) (hc : cs[15]? = some (.int .i64 v)) (hv : v ≤ 1000000)
    (T : Nat → Prop) (A : Option Addr) (n c : Nat) (xs : List Int) (hr : Reads w T 1 A n (ints xs)) (hn : n ≤ 1000000) :
    Calls Tryz.prog 62 #[.slice A n c, .func (.func 63) #[] #[.pointer (some ⟨q, 0, none⟩)]] w fun e w' => e = .returned (.bool (xs.any (badTok v))) ∧ w = w' := by
  have HI := Lib.hid (index_toks w q sa v cs kq ks hc hv T A n c xs hr hn)
  generalize xs.any (badTok v) = b at *
  clear kq ks hc hr
  go_enter Tryz.func62, Tryz.ntmps62
  go_wp2_with fail
  refine HI.out.mono ?_
  rintro e w' ⟨⟨k, rfl, hk⟩, rfl⟩
  have HK := Lib.hid hk
  clear hk
  go_wp2_with fail
  go_ret
  exact ⟨by rw [← HK.out]; rfl, rfl⟩

theorem find_some {s : Srv} {id : Int} {i : Nat} (h : s.find id = some i) : i < s.reqs.length ∧ (s.req i).id = id := by
  obtain ⟨h1, h2, -⟩ := List.findIdx?_eq_some_iff_getElem.1 h
  refine ⟨h1, ?_⟩
  have := s.req_get i h1
  rw [List.getElem?_eq_getElem h1] at this
  injection this with this
  rw [← this]
  simpa using h2
theorem find_none {s : Srv} {id : Int} (h : s.find id = none) : ∀ i, i < s.reqs.length → (s.req i).id ≠ id := by
  intro i hi e
  have := List.findIdx?_eq_none_iff.1 h (s.req i) (List.mem_of_getElem? (s.req_get i hi))
  simp [e] at this
theorem idMap_find {P : Ptrs} {s : Srv} (hd : s.Distinct) (id : Int) : (idMap P s).lookup id = (s.find id).map P.rb := by
  cases h : s.find id with
  | none => exact idMap_none (find_none h)
  | some i =>
    obtain ⟨h1, h2⟩ := find_some h
    rw [← h2]
    exact idMap_look h1 hd
def askVal (vp : Value) (r : Ask) : Value := .agg #[.int .i64 r.id, .int .i64 r.deadline, vp, .int .i64 r.most, .int .i64 r.seed]
def accIf (b1 b2 b3 b4 b5 b6 b7 b8 b9 b10 : Bool) : Int :=
  if !(b1 && (b2 && (b3 && b4))) then 9 else if !b5 then 3 else if b6 then 9 else if b7 then 6 else if b8 then 18 else if b9 then 2 else if b10 then 16 else 0
theorem acc_eq (s : Srv) (r : Ask) : s.accErr r = accIf (win r.id 1 1000000) (win r.deadline 0 1000000) (win r.most 1 32) (win r.seed (-2147483648) 2147483647) (win r.prompt.length 1 32) (r.prompt.any (badTok s.M.vocab))
    (s.find r.id).isSome (decide (r.deadline ≤ s.now)) (decide ((s.c.pages : Int) * s.c.pageSize < r.prompt.length + r.most)) (decide ((s.c.queue : Int) ≤ s.open_.length)) := by
  have e6 : r.prompt.any (fun t => !decide (0 ≤ t ∧ t ≤ (s.M.vocab : Int) - 1)) = r.prompt.any (badTok s.M.vocab) := rfl
  unfold Srv.accErr accIf win
  rw [e6]
  generalize r.prompt.any (badTok s.M.vocab) = b6
  generalize (s.find r.id).isSome = b7
  by_cases h1 : 1 ≤ r.id ∧ r.id ≤ 1000000 ∧ 0 ≤ r.deadline ∧ r.deadline ≤ 1000000 ∧ 1 ≤ r.most ∧ r.most ≤ 32 ∧ -2147483648 ≤ r.seed ∧ r.seed ≤ 2147483647
  · obtain ⟨a1, a2, a3, a4, a5, a6, a7, a8⟩ := h1
    simp only [a1, a2, a3, a4, a5, a6, a7, a8, and_self, not_true, if_false, decide_true, Bool.and_self, Bool.not_true, Bool.false_eq_true]
    by_cases h2 : 1 ≤ r.prompt.length ∧ r.prompt.length ≤ 32
    · have x1 : (1 : Int) ≤ r.prompt.length := by omega
      have x2 : (r.prompt.length : Int) ≤ 32 := by omega
      simp [h2, x1, x2]
    · have x : ¬ ((1 : Int) ≤ r.prompt.length ∧ (r.prompt.length : Int) ≤ 32) := by omega
      rw [if_pos h2]
      by_cases y : (1 : Int) ≤ r.prompt.length
      · have z : ¬ (r.prompt.length : Int) ≤ 32 := fun h => x ⟨y, h⟩
        simp [y, z]
      · simp [y]
  · rw [if_pos h1]
    have : (!(decide (1 ≤ r.id) && decide (r.id ≤ 1000000) && (decide (0 ≤ r.deadline) && decide (r.deadline ≤ 1000000) && (decide (1 ≤ r.most) && decide (r.most ≤ 32) && (decide (-2147483648 ≤ r.seed) && decide (r.seed ≤ 2147483647)))))) = true := by
      simp only [Bool.not_eq_true', Bool.and_eq_false_iff, decide_eq_false_iff_not]
      omega
    rw [this]; rfl
end Go.Proofs.YtedkfehdfmimoaaGreat

/- compute. -/
import Derived.Test.YtedkfehdfmimoaaGreatKc21
import Derived.StillTailTactics
import Derived.Deep.RegionLaw
import Derived.Deep.DeepCutAuto
namespace Go.Proofs.YtedkfehdfmimoaaGreat
open Go.RowKit

theorem Rep.pageKeptReq {w w' : World} {own : Nat → Slot} {P : Ptrs} {s : Srv} (h : Rep w own P s) (k : Nat) (hkl : k < s.pages.length) (i : Nat) (r : Req) (hi : s.reqs[i]? = some r) {v' : Value} {n' : Nat} {xs : List Value} (happ : Appended w w' (fun g => own g = .page k) 3 1 (P.vpage k) v' n' xs) (j : Nat) :
    w'.cell? ⟨P.rb i, j, none⟩ = (reqCells P i r)[j]? ∧ w'.frozen? ⟨P.rb i, j, none⟩ = false := by
  obtain ⟨hil, hir⟩ := List.getElem?_eq_some_iff.1 hi
  have hq := h.req i hil
  rw [hir] at hq
  have k0 : Keeps (fun g => own g = .page k) w w' := (Keeps.refl _ w).grown happ.2.1 fun g hg hlt => (h.page k hkl).2 g hg
  have hb := k0.blk hq.blk (by rw [hq.oreq]; intro e; cases e)
  exact ⟨hb.cell j, hb.frozen j⟩
theorem Rep.ne_pages {w : World} {own : Nat → Slot} {P : Ptrs} {s : Srv} (h : Rep w own P s) (i : Nat) (hi : i < s.reqs.length) : ¬ P.pb = P.rb i ∧ ¬ P.rb i = P.pb := by
  have e1 := h.opages
  have e2 := (h.req i hi).oreq
  refine ⟨fun e => ?_, fun e => ?_⟩
  · rw [e, e2] at e1; cases e1
  · rw [e, e1] at e2; cases e2
def RepRes (w : World) (own : Nat → Slot) (P : Ptrs) (m : Nat) (s' : Srv) (e : Ending) (w' : World) : Prop :=
  e = .returned (.tuple #[]) ∧ ∃ own' P', Rep w' own' P' s' ∧ Step w own P w' own' P' m
/-- what compute needs to fill a page -/
structure FillOk (s : Srv) (i k : Nat) (res : Srv) : Prop where
  hi : i < s.reqs.length
  hk : k < s.pages.length
  last : (s.req i).holds.getLast? = some (k : Int)
  tok : (s.req i).tokens.length ≤ 64
  ent : (s.req i).entries ≤ (s.req i).tokens.length
  ptok : (s.pg k).tokens.length ≤ s.c.pageSize
  ps : s.c.pageSize ≤ 8
  np : s.pages.length ≤ 64
  few : (s.req i).holds.length ≤ 65
  res : res = s.fill i k
theorem ReqOk.tok64 {s : Srv} {r : Req} (h : ReqOk s r) : r.tokens.length ≤ 64 := by have := h.tokens; have := h.prompt; have := h.most; have := h.made; omega
theorem Srv.open1_req (s : Srv) (i k : Nat) (hi : i < s.reqs.length) : (s.open1 i k).req i = { s.req i with holds := (s.req i).holds ++ [(k : Int)] } := by
  unfold Srv.open1
  rw [Srv.req_setReq _ _ _ _ (by exact hi), if_pos rfl]
theorem Srv.open1_pg (s : Srv) (i k : Nat) (hk : k < s.pages.length) : (s.open1 i k).pg k = ⟨(s.req i).entries, [], 1, 0⟩ := by
  have := Srv.pg_setPage s k ⟨(s.req i).entries, [], 1, 0⟩ k hk
  rw [if_pos rfl] at this
  exact this
theorem fillOk_open (s : Srv) (hs : s.Ok) (i j : Nat) (hi : i < s.reqs.length) (hj : j < s.pages.length) : FillOk (s.open1 i j) i j ((s.open1 i j).fill i j) := by
  have hr := hs.reqs i hi
  have h64 := hr.tok64
  have hrq := s.open1_req i j hi
  have hnp : (s.open1 i j).pages.length = s.pages.length := by simp [Srv.open1, Srv.setReq, Srv.setPage]
  refine ⟨by simpa [Srv.open1, Srv.setReq, Srv.setPage] using hi, by rw [hnp]; exact hj, ?_, ?_, ?_, ?_, ?_, ?_, ?_, rfl⟩
  · rw [hrq]; simp
  · rw [hrq]; exact h64
  · rw [hrq]; exact hr.ent
  · rw [s.open1_pg i j hj]; exact Nat.zero_le _
  · exact hs.c.pageSize.2
  · rw [hnp, hs.npages]; exact hs.c.pages.2
  · rw [hrq]
    have := hr.few
    have := hr.ent
    simp only [List.length_append, List.length_singleton]
    omega
theorem fillOk_last (s : Srv) (hs : s.Ok) (i : Nat) (hi : i < s.reqs.length) (he : (s.req i).entries % s.c.pageSize ≠ 0) : FillOk s i ((s.req i).holds.getLastD 0).toNat (s.fill i ((s.req i).holds.getLastD 0).toNat) := by
  have hr := hs.reqs i hi
  have h64 := hr.tok64
  have hne := hr.last he
  obtain ⟨x, hx⟩ : ∃ x, (s.req i).holds.getLast? = some x := by
    cases h : (s.req i).holds.getLast? with
    | none => exact absurd (List.getLast?_eq_none_iff.1 h) hne
    | some x => exact ⟨x, rfl⟩
  have hxm : x ∈ (s.req i).holds := List.mem_of_getLast? hx
  have hxr := hr.holds x hxm
  have hxd : (s.req i).holds.getLastD 0 = x := by rw [List.getLastD_eq_getLast?, hx]; rfl
  rw [hxd]
  have hxn : ((x.toNat : Nat) : Int) = x := Int.toNat_of_nonneg hxr.1
  exact ⟨hi, by omega, by rw [hxn]; exact hx, h64, hr.ent, hs.ptok _ (by omega), hs.c.pageSize.2, by rw [hs.npages]; exact hs.c.pages.2, by have := hr.few; have := hr.ent; omega, rfl⟩
theorem Rep.holdsKept {w w' : World} {own : Nat → Slot} {P : Ptrs} {s : Srv} (h : Rep w own P s) (i : Nat) (r : Req) (hi : s.reqs[i]? = some r) {v' : Value} {n' : Nat} {xs : List Value} (happ : Appended w w' (fun g => own g = .holds i) 3 1 (P.vhold i) v' n' xs) (j : Nat) :
    w'.cell? ⟨P.rb i, j, none⟩ = (reqCells P i r)[j]? ∧ w'.frozen? ⟨P.rb i, j, none⟩ = false := by
  obtain ⟨hil, hir⟩ := List.getElem?_eq_some_iff.1 hi
  have hq := h.req i hil
  rw [hir] at hq
  have k0 : Keeps (fun g => own g = .holds i) w w' := (Keeps.refl _ w).grown happ.2.1 fun g hg hlt => hq.holds.2 g hg
  have hb := k0.blk hq.blk (by rw [hq.oreq]; intro e; cases e)
  exact ⟨hb.cell j, hb.frozen j⟩
theorem Rep.tokensKept {w w' : World} {own : Nat → Slot} {P : Ptrs} {s : Srv} (h : Rep w own P s) (i : Nat) (r : Req) (hi : s.reqs[i]? = some r) {v' : Value} {n' : Nat} {xs : List Value} (happ : Appended w w' (fun g => own g = .tokens i) 3 1 (P.vtok i) v' n' xs) (j : Nat) :
    w'.cell? ⟨P.rb i, j, none⟩ = (reqCells P i r)[j]? ∧ w'.frozen? ⟨P.rb i, j, none⟩ = false := by
  obtain ⟨hil, hir⟩ := List.getElem?_eq_some_iff.1 hi
  have hq := h.req i hil
  rw [hir] at hq
  have k0 : Keeps (fun g => own g = .tokens i) w w' := (Keeps.refl _ w).grown happ.2.1 fun g hg hlt => hq.tokens.2 g hg
  have hb := k0.blk hq.blk (by rw [hq.oreq]; intro e; cases e)
  exact ⟨hb.cell j, hb.frozen j⟩
theorem Rep.pageKept {w w' : World} {own : Nat → Slot} {P : Ptrs} {s : Srv} (h : Rep w own P s) (k : Nat) (p : Page) (hk : s.pages[k]? = some p) {v' : Value} {n' : Nat} {xs : List Value} (happ : Appended w w' (fun g => own g = .page k) 3 1 (P.vpage k) v' n' xs) (j : Nat) (hj : j < 4) :
    w'.cell? ⟨P.pb, k * 4 + j, none⟩ = (pageCell (P.vpage k) p)[j]? ∧ w'.frozen? ⟨P.pb, k * 4 + j, none⟩ = false := by
  obtain ⟨hkl, hkr⟩ := List.getElem?_eq_some_iff.1 hk
  have hp := h.page k hkl
  have k0 : Keeps (fun g => own g = .page k) w w' := (Keeps.refl _ w).grown happ.2.1 fun g hg hlt => hp.2 g hg
  have hb := k0.blk h.pages (by rw [h.opages]; intro e; cases e)
  refine ⟨?_, hb.frozen _⟩
  rw [hb.cell]
  have := pagesFrom_get P.vpage s.pages 0 k p j hk hj
  rw [Nat.zero_add] at this
  rw [← this]
  simp [pageCells]
set_option maxRecDepth 100000 in
set_option maxHeartbeats 2000000 in
theorem compute_any (w : World) (own : Nat → Slot) (P : Ptrs) (s : Srv) (h : Rep w own P s) (hs : s.Ok) (i : Nat) (hi : i < s.reqs.length) (b : List Nat) (hb : ∀ i ∈ b, i < s.reqs.length) (hib : i ∉ b) (B : Option Addr) (c : Nat) (hB : Reads w (own · = .other) 1 B b.length (ptrs P.rb b)) (m : Nat) (hm : s.reqs.length ≤ m) (hbl : b.length ≤ 12) (hbc : b.length ≤ c)
    (hent : (s.req i).entries < (s.req i).tokens.length) :
    Calls Tryz.prog 71 #[.pointer (some ⟨P.sa, 0, none⟩), .pointer (some ⟨P.rb i, 0, none⟩), .slice B b.length c] w (RepRes w own P m (s.compute i b)) := by
  have hir := s.req_get i hi
  have c8 : w.cell? ⟨P.rb i, 8, none⟩ = some (.int .i64 (s.req i).entries) := h.rcell i _ hir 8
  have c12 : w.cell? ⟨P.sa, 12, none⟩ = some (.int .i64 s.c.pageSize) := h.scell 12
  have hps := hs.c.pageSize
  obtain ⟨hps1, hps2⟩ := hps
  have HPG := Lib.hid (fun n => page_any (w.drewN n) own P s (h.drewN n) hs b hb B c (hB.drewN n) m hm hbl hbc)
  have HPS := Lib.hid (page_same s b hs hb)
  have H := Lib.hid h
  have HS := Lib.hid hs
  have HI := Lib.hid hi
  have HIB := Lib.hid hib
  have HM := Lib.hid hm
  have HC : Hid (s.compute i b = if (s.req i).entries % s.c.pageSize = 0 then
    match s.page b with
    | (s1, none) => s1
    | (s1, some k) => (s1.open1 i k).fill i k
  else s.fill i ((s.req i).holds.getLastD 0).toNat) := Lib.hid rfl
  obtain ⟨e, hee⟩ : ∃ e, e = (s.req i).entries := ⟨_, rfl⟩
  obtain ⟨ps, hpp⟩ : ∃ ps, ps = s.c.pageSize := ⟨_, rfl⟩
  rw [← hee] at c8
  rw [← hpp] at c12 hps1 hps2
  rw [← hee, ← hpp] at HC
  have HE := Lib.hid hee
  have HPP := Lib.hid hpp
  have HENT := Lib.hid hent
  clear hir hee hpp h hs hb hB hm hib hi hent
  generalize s.compute i b = res at *
  generalize b.length = nb at *
  have hp0 : ¬ (ps : Int) = 0 := by omega
  go_enter Tryz.func71, Tryz.ntmps71
  go_wp2_with fail
  go_quiet (fail)
  go_upto_if 19 with (fail)
  go_cut [] (fun w2 => ∃ (own2 : Nat → Slot) (P2 : Ptrs) (s2 : Srv) (k : Nat), Rep w2 own2 P2 s2 ∧ Step w own P w2 own2 P2 m ∧ FillOk s2 i k res)
  case first =>
    by_cases hm0 : e % ps = 0
    · have hm1 : ((e : Int) % (ps : Int) == 0) = true := by
        have : ((e % ps : Nat) : Int) = 0 := by omega
        simpa using this
      go_wp2_with fail
      refine (HPG.out _).mono ?_
      rintro e' w1 ⟨k, own1, P1, rfl, hk, h1, st1⟩
      rw [if_pos hm0] at HC
      obtain ⟨p1, p2, p3, p4⟩ := HPS.out
      generalize s.page b = r at *
      obtain ⟨s1, o⟩ := r
      cases o with
      | none =>
        have hres : res = s1 := HC.out
        have H1 := Lib.hid h1
        have ST1 := Lib.hid st1
        have HRES := Lib.hid hres
        clear hres h1 st1 p1 p2 p3 p4 hk
        go_wp2_with fail
        refine bodyPost_ret (results_none rfl _ _ _) rfl ?_
        exact ⟨rfl, own1, P1, by rw [HRES.out]; exact H1.out, ((Step.refl w own P m).drewN _).tr ST1.out⟩
      | some j =>
        obtain rfl := hk j rfl
        have hjl : j < s1.pages.length := by rw [p2.npages]; exact p4 j rfl
        have hres : res = (s1.open1 i j).fill i j := HC.out
        have hsa := st1.sa
        have hrb := st1.rb i (Nat.lt_of_lt_of_le HI.out HM.out)
        have hi1 : i < s1.reqs.length := by rw [p2.nreqs]; exact HI.out
        have hri : s1.req i = s.req i := p3 i HIB.out
        have hir := s1.req_get i hi1
        have c18 : w1.cell? ⟨P.sa, 18, none⟩ = some (.slice (some ⟨P1.pb, 0, none⟩) s1.pages.length s1.pages.length) := by rw [← hsa]; exact h1.scell 18
        have c8 : w1.cell? ⟨P.rb i, 8, none⟩ = some (.int .i64 e) := by rw [← hrb, HE.out, ← hri]; exact h1.rcell i _ hir 8
        have hpg := s1.pg_get j hjl
        have d0 : w1.cell? ⟨P1.pb, j * 4, none⟩ = some (.int .i64 (s1.pg j).start) := h1.pcell j _ hpg 0 (by omega)
        have d1 : w1.cell? ⟨P1.pb, j * 4 + 1, none⟩ = some (P1.vpage j) := h1.pcell j _ hpg 1 (by omega)
        have d2 : w1.cell? ⟨P1.pb, j * 4 + 2, none⟩ = some (.int .i64 (s1.pg j).owners) := h1.pcell j _ hpg 2 (by omega)
        have d3 : w1.cell? ⟨P1.pb, j * 4 + 3, none⟩ = some (.int .i64 (s1.pg j).used) := h1.pcell j _ hpg 3 (by omega)
        have f0 := h1.pages.frozen (j * 4)
        have f1 := h1.pages.frozen (j * 4 + 1)
        have f2 := h1.pages.frozen (j * 4 + 2)
        have f3 := h1.pages.frozen (j * 4 + 3)
        have hj0 : (0 : Int) ≤ j := by omega
        have hj1 : (j : Int) < s1.pages.length := by omega
        have p1 : s1.Ok := p1
        have p2 : PSame s s1 := p2
        have hpl64 : s1.pages.length ≤ 64 := by have := p1.npages; have := p1.c.pages; omega
        have H1 := Lib.hid h1
        have ST1 := Lib.hid st1
        have HRES := Lib.hid hres
        have HJL := Lib.hid hjl
        have HRB := Lib.hid hrb
        have HSA := Lib.hid hsa
        have HRI := Lib.hid hri
        have HI1 := Lib.hid hi1
        have OK1 := Lib.hid p1
        have PS1 := Lib.hid p2
        clear hk hres hsa hrb hi1 hri hir hpg h1 st1 p1 p2 p3 p4 HPS HPG HC
        generalize (s1.pg j).start = q0 at *
        generalize (s1.pg j).owners = q2 at *
        generalize (s1.pg j).used = q3 at *
        go_wp2_with fail
        go_still_tail 11, (by kernel_rfl)
        change wpList _ _ _ _ _ w1.drew
        go_upto_region 4 with (fail)
        obtain ⟨h2, st2⟩ := H1.out.putPage j HJL.out e 0 1 m
        clear c18 c8 d0 d1 d2 d3 f0 f1 f2 f3
        generalize (((w1.setCell ⟨P1.pb, j * 4, none⟩ (.int .i64 e)).setCell ⟨P1.pb, j * 4 + 1, none⟩ (.slice none 0 0)).setCell ⟨P1.pb, j * 4 + 2, none⟩ (.int .i64 1)).setCell ⟨P1.pb, j * 4 + 3, none⟩ (.int .i64 0) = w2 at *
        replace h2 := h2.drewN 1
        replace st2 := st2.drewN 1
        change Rep w2.drew own1 _ _ at h2
        change Step w1 own1 P1 w2.drew own1 _ m at st2
        generalize w2.drew = w3 at *
        have hi2 : i < (s1.setPage j ⟨e, [], 1, 0⟩).reqs.length := HI1.out
        have hir2 : (s1.setPage j ⟨e, [], 1, 0⟩).reqs[i]? = some (s1.req i) := s1.req_get i HI1.out
        have hq2 := h2.req i hi2
        have hri2 : (s1.setPage j ⟨e, [], 1, 0⟩).reqs[i] = s1.req i := by rw [List.getElem?_eq_getElem hi2] at hir2; injection hir2
        rw [hri2] at hq2
        have hown := hq2.holds
        have hvh : ({ P1 with vpage := setAt P1.vpage j (.slice none 0 0) } : Ptrs).vhold i = P1.vhold i := rfl
        rw [hvh] at hown
        obtain ⟨A, ca, hv, hc1, hc2⟩ := hown.shape
        have c7 : w3.cell? ⟨P.rb i, 7, none⟩ = some (.slice A (s1.req i).holds.length ca) := by
          have := h2.rcell i _ hir2 7
          rw [← HRB.out, ← hv]; exact this
        have hfew : (s1.req i).holds.length ≤ 64 := by have := (OK1.out.reqs i HI1.out).few; have := (OK1.out.reqs i HI1.out).ent; have := (OK1.out.reqs i HI1.out).tok64; omega
        rw [hv] at hown
        obtain ⟨hl, hhl⟩ : ∃ hl, hl = (s1.req i).holds.length := ⟨_, rfl⟩
        rw [← hhl] at c7 hown hfew hc1
        have HHL := Lib.hid hhl
        have HV := Lib.hid hv
        have H2 := Lib.hid h2
        have ST2 := Lib.hid st2
        have HIR2 := Lib.hid hir2
        have zrb := hq2.blk.lt
        rw [show ({ P1 with vpage := setAt P1.vpage j (.slice none 0 0) } : Ptrs).rb i = P.rb i from HRB.out] at zrb
        obtain ⟨i0, hi0, hz0, hz1, hz2⟩ := info_parts int_info
        clear hv hhl h2 st2 hir2 hri2 hq2 hvh hi2
        have hk7 : ∀ v' w4 n' xs, Appended (w3.alloc (.cells #[.int .i64 j] 3)) w4 (fun g => own1 g = .holds i) 3 1 (.slice A hl ca) v' n' xs → w4.cell? ⟨P.rb i, 7, none⟩ = some (.slice A hl ca) ∧ w4.frozen? ⟨P.rb i, 7, none⟩ = false := by
          intro v' w4 n' xs happ
          have := (H2.out.alloc (.cells #[.int .i64 j] 3)).holdsKept i _ HIR2.out (v' := v') (w' := w4) (n' := n') (xs := xs) (by
            show Appended _ _ _ _ _ (P1.vhold i) _ _ _
            rw [HV.out, ← HHL.out]
            exact happ) 7
          rw [show ({ P1 with vpage := setAt P1.vpage j (.slice none 0 0) } : Ptrs).rb i = P.rb i from HRB.out] at this
          refine ⟨this.1.trans ?_, this.2⟩
          show some (P1.vhold i) = _
          rw [HV.out, ← HHL.out]
        have HK7 := Lib.hid hk7
        clear hk7
        go_wp2_with (first | (at_builtin; go_must (refine wpList_append_any _ rfl _ _ 22 rfl 3 i0 _ 1 8 Tryz.underlying22 hi0 hz0 hz1 hz2 rfl (by omega) (.slice A hl ca) _ _ rfl (hown.alloc _) _ 1 1 _ rfl (reads_new _ _ [(j : Int)] 1 rfl) (ints_one _) (by unfold maxLen; omega) (by omega) ?_); intro v' w4 happ; obtain ⟨k7, kf7⟩ := HK7.out _ _ _ _ happ; obtain ⟨A4, c4, rfl, -, -⟩ := happ.1.shape))
        go_meet
        case rel =>
          obtain ⟨h5, st5⟩ := (H2.out.alloc (.cells #[.int .i64 j] 3)).newHolds i _ HIR2.out (v' := .slice A4 (hl + 1) c4) (w' := w4) (n' := hl + 1) (l' := (s1.req i).holds ++ [(j : Int)]) (by
            show Appended _ _ _ _ _ (P1.vhold i) _ _ _
            rw [HV.out, ← HHL.out, show ints ((s1.req i).holds ++ [(j : Int)]) = ints (s1.req i).holds ++ ints [(j : Int)] by simp [ints]]
            exact happ) (by rw [List.length_append, ← HHL.out]; rfl) m
          rw [show ({ P1 with vpage := setAt P1.vpage j (.slice none 0 0) } : Ptrs).rb i = P.rb i from HRB.out] at h5 st5
          refine ⟨_, _, s1.open1 i j, j, ?_, ((((Step.refl w own P m).drewN _).tr ST1.out).tr ST2.out).tr ((Step.fresh ((Below.refl _ _).alloc (Nat.le_refl _) _) _ _ m).tr st5), ?_⟩
          · have e1 : e = (s1.req i).entries := by rw [HE.out, HRI.out]
            have := h5
            rw [e1] at this
            exact this
          · rw [HRES.out]; exact fillOk_open s1 OK1.out i j HI1.out HJL.out
    · have hm1 : ((e : Int) % (ps : Int) == 0) = false := by
        have : ((e % ps : Nat) : Int) ≠ 0 := by omega
        simpa using this
      rw [if_neg hm0] at HC
      go_wp2_with fail
      go_meet
      case rel =>
        refine ⟨own, P, s, ((s.req i).holds.getLastD 0).toNat, H.out.drewN nq, (Step.refl w own P m).drewN nq, ?_⟩
        have := fillOk_last s HS.out i HI.out (by rw [← HE.out, ← HPP.out]; exact hm0)
        rw [← HC.out] at this
        exact this
  case rest =>
    obtain ⟨own2, P2, s2, k, h2, st2, hf⟩ := hcut
    have hsa := st2.sa
    have hrb := st2.rb i (Nat.lt_of_lt_of_le HI.out HM.out)
    have hil := hf.hi
    have hir := s2.req_get i hil
    have hq := h2.req i hil
    have hri : s2.reqs[i] = s2.req i := by rw [List.getElem?_eq_getElem hil] at hir; injection hir
    rw [hri] at hq
    obtain ⟨A, ch, hv, hc1, hc2⟩ := hq.holds.shape
    obtain ⟨q, hq1, hq2⟩ : ∃ q, (s2.req i).holds.length = q + 1 ∧ (s2.req i).holds[q]? = some (k : Int) := by
      have hl := hf.last
      rw [List.getLast?_eq_getElem?] at hl
      obtain ⟨h1, h2⟩ := List.getElem?_eq_some_iff.1 hl
      exact ⟨(s2.req i).holds.length - 1, by omega, hl⟩
    have hown := hq.holds
    rw [hv] at hown
    obtain ⟨ad, u, rfl, -, -, hu, hcq⟩ := hown.reads.at_ (k := q) (by omega)
    have hu2 : u = .int .i64 (k : Int) := by
      simp only [ints, List.getElem?_map, hq2, Option.map_some] at hu
      injection hu with hu
      exact hu.symm
    subst hu2
    have c7 : wc.cell? ⟨P.rb i, 7, none⟩ = some (.slice (some ad) (q + 1) ch) := by
      have := h2.rcell i _ hir 7
      rw [hrb] at this
      rw [this, ← hq1, ← hv]; rfl
    have c18 : wc.cell? ⟨P.sa, 18, none⟩ = some (.slice (some ⟨P2.pb, 0, none⟩) s2.pages.length s2.pages.length) := by rw [← hsa]; exact h2.scell 18
    have b1 : IntKind.i64.wrap (((q : Int) + 1) - 1) = q := by
      have := hf.few
      rw [IntKind.wrap_i64]; omega
    have b2 : (0 : Int) ≤ q := by omega
    have b3 : (q : Int) < (q : Int) + 1 := by omega
    have b4 : (0 : Int) ≤ k := by omega
    have b5 : (k : Int) < s2.pages.length := by have := hf.hk; omega
    have hqf : q + 1 ≤ 65 := by rw [← hq1]; exact hf.few
    have hnp := hf.np
    have H2 := Lib.hid h2
    have ST2 := Lib.hid st2
    have HF := Lib.hid hf
    have HSA := Lib.hid hsa
    have HRB := Lib.hid hrb
    clear hsa hrb hir hq hri hv hc1 hq1 hq2 hown hu h2 st2 hf HPG HPS HC HENT c8 c12 hp0
    go_wp2_with fail
    go_quiet (fail)
    go_wp2_with fail
    have HN : Hid (fillN s2.c.pageSize (s2.pg k) (s2.req i) = min (s2.c.pageSize - (s2.pg k).tokens.length) ((s2.req i).tokens.length - (s2.req i).entries)) := Lib.hid rfl
    have HFL := Lib.hid (s2.fill_eq i k HF.out.hi HF.out.hk)
    obtain ⟨N, hN⟩ : ∃ N, N = fillN s2.c.pageSize (s2.pg k) (s2.req i) := ⟨_, rfl⟩
    rw [← hN] at HN HFL
    clear hN c7 c18 hcq b1 b2 b3 b5
    go_loopg [] N (fun g wr => ∃ (t : Nat) (own3 : Nat → Slot) (P3 : Ptrs), t + g = N ∧ Rep wr own3 P3 (s2.fillTo i k t) ∧ Step w own P wr own3 P3 m ∧ P3.pb = P2.pb)
    case atStart => exact ⟨0, own2, P2, by omega, by rw [Srv.fillTo_zero _ _ _ HF.out.hi HF.out.hk]; exact H2.out.drewN _, ST2.out.drewN _, rfl⟩
    obtain ⟨t, own3, P3, ht, h3, st3, epb⟩ := hrel
    have hi3 : i < (s2.fillTo i k t).reqs.length := by simpa [Srv.fillTo, Srv.setReq, Srv.setPage] using HF.out.hi
    have hk3 : k < (s2.fillTo i k t).pages.length := by simpa [Srv.fillTo, Srv.setReq, Srv.setPage] using HF.out.hk
    have hir3 := Srv.req_get _ i hi3
    have hpg3 := Srv.pg_get _ k hk3
    have HREQ := Lib.hid (s2.fillTo_req i k t HF.out.hi)
    have HPAG := Lib.hid (s2.fillTo_pg i k t HF.out.hk)
    have hsa := st3.sa
    have hrb := st3.rb i (Nat.lt_of_lt_of_le HI.out HM.out)
    have hq3 := h3.req i hi3
    have hri3 : (s2.fillTo i k t).reqs[i] = (s2.fillTo i k t).req i := by rw [List.getElem?_eq_getElem hi3] at hir3; injection hir3
    rw [hri3] at hq3
    have hpp3 : (s2.fillTo i k t).pages[k] = (s2.fillTo i k t).pg k := by rw [List.getElem?_eq_getElem hk3] at hpg3; injection hpg3
    have hpr3 := h3.page k hk3
    rw [hpp3] at hpr3
    obtain ⟨AT, cT, hvT, -, -⟩ := hq3.tokens.shape
    obtain ⟨AP, cP, hvP, hcP1, hcP2⟩ := hpr3.shape
    have c5 : wr.cell? ⟨P.rb i, 5, none⟩ = some (.slice AT ((s2.fillTo i k t).req i).tokens.length cT) := by rw [← hrb, ← hvT]; exact h3.rcell i _ hir3 5
    have c8 : wr.cell? ⟨P.rb i, 8, none⟩ = some (.int .i64 ((s2.fillTo i k t).req i).entries) := by rw [← hrb]; exact h3.rcell i _ hir3 8
    have f8 : wr.frozen? ⟨P.rb i, 8, none⟩ = false := by rw [← hrb]; exact h3.rfree i hi3 8
    have c12 : wr.cell? ⟨P.sa, 12, none⟩ = some (.int .i64 (s2.c.pageSize)) := by rw [← hsa]; exact h3.scell 12
    have c16 : wr.cell? ⟨P.sa, 16, none⟩ = some (.int .i64 s2.now) := by rw [← hsa]; exact h3.scell 16
    have d1 : wr.cell? ⟨P2.pb, k * 4 + 1, none⟩ = some (.slice AP ((s2.fillTo i k t).pg k).tokens.length cP) := by rw [← epb, ← hvP]; exact h3.pcell k _ hpg3 1 (by omega)
    have htk := hq3.tokens
    rw [hvT] at htk
    have htr := htk.reads
    have hpo := hpr3
    rw [hvP] at hpo
    have zrb := hq3.blk.lt
    rw [hrb] at zrb
    have zpb := h3.pages.lt
    rw [epb] at zpb
    have hps8 := HF.out.ps
    have htl : ((s2.fillTo i k t).req i).tokens.length ≤ 64 := by rw [HREQ.out]; exact HF.out.tok
    obtain ⟨L, hL⟩ : ∃ L, L = ((s2.fillTo i k t).pg k).tokens.length := ⟨_, rfl⟩
    obtain ⟨E, hE⟩ : ∃ E, E = ((s2.fillTo i k t).req i).entries := ⟨_, rfl⟩
    obtain ⟨TL, hTL⟩ : ∃ TL, TL = ((s2.fillTo i k t).req i).tokens.length := ⟨_, rfl⟩
    rw [← hL] at d1 hpo hcP1
    rw [← hE] at c8
    rw [← hTL] at c5 htr htl
    have d3 : wr.cell? ⟨P2.pb, k * 4 + 3, none⟩ = some (.int .i64 ((s2.fillTo i k t).pg k).used) := by rw [← epb]; exact h3.pcell k _ hpg3 3 (by omega)
    have f3 : wr.frozen? ⟨P2.pb, k * 4 + 3, none⟩ = false := by rw [← epb]; exact h3.pages.frozen _
    have cw : wr.cell? ⟨P.rb i, 12, none⟩ = some (.bool ((s2.fillTo i k t).req i).worked) := by rw [← hrb]; exact h3.rcell i _ hir3 12
    have fw : wr.frozen? ⟨P.rb i, 12, none⟩ = false := by rw [← hrb]; exact h3.rfree i hi3 12
    obtain ⟨ne1, ne2⟩ := h3.ne_pages i hi3
    rw [epb, hrb] at ne1 ne2
    have HL := Lib.hid hL
    have HE3 := Lib.hid hE
    have HTL := Lib.hid hTL
    have HVP := Lib.hid hvP
    have HVT := Lib.hid hvT
    have H3 := Lib.hid h3
    have ST3 := Lib.hid st3
    have HIR3 := Lib.hid hir3
    have HPG3 := Lib.hid hpg3
    have HRB3 := Lib.hid hrb
    have HSA3 := Lib.hid hsa
    have EPB := Lib.hid epb
    have HTR := Lib.hid htr
    have HPO := Lib.hid hpo
    have HI3 := Lib.hid hi3
    have HLe : Hid (L = (s2.pg k).tokens.length + min t ((s2.req i).tokens.length - (s2.req i).entries)) := by
      show _ = _
      rw [HL.out, HPAG.out]
      simp [fillPage]
    have HEe : Hid (E = (s2.req i).entries + t) := by show _ = _; rw [HE3.out, HREQ.out]
    have HTe : Hid (TL = (s2.req i).tokens.length) := by show _ = _; rw [HTL.out, HREQ.out]
    clear hL hE hTL hvP hvT h3 st3 hir3 hpg3 hrb hsa epb htr hpo htk hq3 hri3 hpp3 hpr3 hi3 hk3
    have hent := HF.out.ent
    have hptk := HF.out.ptok
    have hn := HN.out
    have hle := HLe.out
    have hee := HEe.out
    have hte := HTe.out
    by_cases hg : gk = 0
    · by_cases hlp : L < s2.c.pageSize
      · have x1 : ¬ E < TL := by omega
        have x2 : decide ((E : Int) < TL) = false := by simp; omega
        clear hn hle hee hte hent hptk
        go_wp2_with fail
        go_quiet (fail)
        go_wp2_with fail
        go_end0
        obtain ⟨h4, st4⟩ := (H3.out.drewN nq).pageSame k 3 _ { (s2.fillTo i k t).pg k with used := s2.now } HPG3.out (by omega) (u := .int .i64 s2.now) rfl rfl m
        rw [EPB.out] at h4 st4
        obtain ⟨h5, st5⟩ := h4.reqSame i 12 _ { (s2.fillTo i k t).req i with worked := true } HIR3.out rfl rfl rfl rfl (u := .bool true) rfl m
        rw [HRB3.out] at h5 st5
        obtain rfl : t = N := by omega
        rw [HFL.out, ← HF.out.res] at h5
        exact ⟨rfl, _, _, h5, ((ST3.out.drewN nq).tr st4).tr st5⟩
      · have x2 : decide ((L : Int) < s2.c.pageSize) = false := by simp; omega
        clear hn hle hee hte hent hptk
        go_wp2_with fail
        go_quiet (fail)
        go_wp2_with fail
        go_end0
        obtain ⟨h4, st4⟩ := (H3.out.drewN nq).pageSame k 3 _ { (s2.fillTo i k t).pg k with used := s2.now } HPG3.out (by omega) (u := .int .i64 s2.now) rfl rfl m
        rw [EPB.out] at h4 st4
        obtain ⟨h5, st5⟩ := h4.reqSame i 12 _ { (s2.fillTo i k t).req i with worked := true } HIR3.out rfl rfl rfl rfl (u := .bool true) rfl m
        rw [HRB3.out] at h5 st5
        obtain rfl : t = N := by omega
        rw [HFL.out, ← HF.out.res] at h5
        exact ⟨rfl, _, _, h5, ((ST3.out.drewN nq).tr st4).tr st5⟩
    · have x1 : L < s2.c.pageSize := by omega
      have x2 : E < TL := by omega
      have x3 : decide ((E : Int) < TL) = true := by simp; omega
      have x4 : decide ((L : Int) < s2.c.pageSize) = true := by simp; omega
      have y1 : (0 : Int) ≤ E := by omega
      have y2 : (E : Int) < TL := by omega
      obtain ⟨adT, u, rfl, -, -, hu, hcT⟩ := HTR.out.at_ x2
      have hel : E < ((s2.fillTo i k t).req i).tokens.length := by rw [← HTL.out]; exact x2
      rw [ints_get _ _ hel] at hu
      injection hu with hu
      subst hu
      have hxe : ((s2.fillTo i k t).req i).tokens[E]? = some ((s2.fillTo i k t).req i).tokens[E] := List.getElem?_eq_getElem hel
      generalize ((s2.fillTo i k t).req i).tokens[E] = x at *
      have HXE := Lib.hid hxe
      have HHE := Lib.hid hee
      clear hn hle hee hte hent hptk hel hxe
      have hLL : L ≤ 8 := by omega
      obtain ⟨i0, hi0, hz0, hz1, hz2⟩ := info_parts int_info
      go_wp2_with fail
      go_quiet (fail)
      go_upto_region 7 with (fail)
      have hk7 : ∀ v' w4 n' xs, Appended ((wr.drewN nq).drew.alloc (.cells #[.int .i64 x] 3)) w4 (fun g => own3 g = .page k) 3 1 (.slice AP L cP) v' n' xs → w4.cell? ⟨P2.pb, k * 4 + 1, none⟩ = some (.slice AP L cP) ∧ w4.frozen? ⟨P2.pb, k * 4 + 1, none⟩ = false := by
        intro v' w4 n' xs happ
        have := ((H3.out.drewN nq).drew.alloc (.cells #[.int .i64 x] 3)).pageKept k _ HPG3.out (v' := v') (w' := w4) (n' := n') (xs := xs) (by rw [HVP.out, ← HL.out]; exact happ) 1 (by omega)
        rw [EPB.out] at this
        refine ⟨this.1.trans ?_, this.2⟩
        show some (P3.vpage k) = _
        rw [HVP.out, ← HL.out]
      have HK7 := Lib.hid hk7
      have zad : adT.block < wr.heap.size := by
        have := HTR.out.2 (by omega)
        obtain ⟨ad', e, hlt, -⟩ := this
        injection e with e
        subst e
        exact hlt
      clear hk7
      go_cut [] (fun w5 => ∃ (own5 : Nat → Slot) (P5 : Ptrs), Rep w5 own5 P5 ((s2.fillTo i k t).setPage k { (s2.fillTo i k t).pg k with tokens := ((s2.fillTo i k t).pg k).tokens ++ [x] }) ∧ Step w own P w5 own5 P5 m ∧ P5.pb = P2.pb)
      case first =>
        have a1 : ((wr.drewN (nq + 1)).alloc (.cells #[.int .i64 x] 3)).cell? ⟨P2.pb, k * 4 + 1, none⟩ = some (.slice AP L cP) := (World.cell?_alloc_lt _ _ _ zpb).trans d1
        go_region_law ((first
          | (refine step_append_any _ (by rfl) _ _ 22 (by rfl) 3 i0 _ 1 8 Tryz.underlying22 hi0 hz0 hz1 hz2 rfl (by omega) (.slice AP L cP) L _ (by rfl) (((HPO.out.drewN nq).drew).alloc _) _ 1 1 _ (by rfl) (reads_new _ _ [x] 1 rfl) (ints_one _) (by unfold maxLen; omega) (by omega) ?_; intro v' w4 happ; obtain ⟨k7, kf7⟩ := HK7.out _ _ _ _ happ; obtain ⟨A4, c4, rfl, -, -⟩ := happ.1.shape)))
        all_goals
          go_wp2_with fail
          go_meet
          obtain ⟨h5, st5⟩ := ((H3.out.drewN nq).drew.alloc (.cells #[.int .i64 x] 3)).newPageTokens k _ HPG3.out (v' := .slice A4 (L + 1) c4) (w' := w4) (n' := L + 1) (l' := ((s2.fillTo i k t).pg k).tokens ++ [x]) (by
            rw [HVP.out, ← HL.out, show ints (((s2.fillTo i k t).pg k).tokens ++ [x]) = ints ((s2.fillTo i k t).pg k).tokens ++ ints [x] by simp [ints]]
            exact happ) (by rw [List.length_append, ← HL.out]; rfl) m
          rw [EPB.out] at h5 st5
          exact ⟨_, _, h5, ((ST3.out.drewN nq).drewN 1).tr ((Step.fresh ((Below.refl _ _).alloc (Nat.le_refl _) _) _ _ m).tr st5), by first | exact EPB.out | rfl⟩
      case rest =>
        obtain ⟨own5, P5, h5, st5, epb5⟩ := hcut
        have hrb5 := st5.rb i (Nat.lt_of_lt_of_le HI.out HM.out)
        have hir5 : ((s2.fillTo i k t).setPage k { (s2.fillTo i k t).pg k with tokens := ((s2.fillTo i k t).pg k).tokens ++ [x] }).reqs[i]? = some ((s2.fillTo i k t).req i) := HIR3.out
        have e8 : wc.cell? ⟨P.rb i, 8, none⟩ = some (.int .i64 E) := by rw [← hrb5, HE3.out]; exact h5.rcell i _ hir5 8
        have g8 : wc.frozen? ⟨P.rb i, 8, none⟩ = false := by rw [← hrb5]; exact h5.rfree i HI3.out 8
        obtain ⟨h6, st6⟩ := h5.reqSame i 8 _ { (s2.fillTo i k t).req i with entries := ((s2.fillTo i k t).req i).entries + 1 } hir5 rfl rfl rfl rfl (u := .int .i64 ((E : Int) + 1)) (by rw [HE3.out]; rfl) m
        rw [hrb5, Srv.fillTo_succ _ _ _ _ HF.out.hi HF.out.hk x (by have h1 := HXE.out; have h2 := HREQ.out; have h3 := HHE.out; rw [h2] at h1; rw [h3] at h1; exact h1)] at h6
        rw [hrb5] at st6
        have H6 := Lib.hid h6
        have ST6 := Lib.hid (st5.tr st6)
        have EPB5 := Lib.hid epb5
        clear h5 st5 epb5 hrb5 hir5 h6 st6
        go_wp2_with fail
        go_roundg (gk - 1)
        case measure => omega
        case rel => exact ⟨t + 1, own5, P5, by omega, H6.out, ST6.out, EPB5.out⟩
end Go.Proofs.YtedkfehdfmimoaaGreat

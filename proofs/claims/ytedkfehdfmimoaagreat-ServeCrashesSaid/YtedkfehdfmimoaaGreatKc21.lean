/- page. What page and compute leave. What sharing leaves. -/
import Derived.Test.YtedkfehdfmimoaaGreatKc20
import Derived.Deep.LoopGhost
namespace Go.Proofs.YtedkfehdfmimoaaGreat
open Go.RowKit

/-- how many of the requests hold pages -/
def holders (s : Srv) (b : List Nat) : Nat := (b.filter fun i => !(s.req i).holds.isEmpty).length
theorem Srv.req_lose (s : Srv) (i j : Nat) (hi : i < s.reqs.length) : (s.lose i).req j = if i = j then { s.req i with holds := [], entries := 0, lost := true } else s.req j := by
  unfold Srv.lose
  rw [giveBack_setReq]
  exact Srv.req_setReq _ _ _ _ hi
theorem lastTo_lt (s : Srv) (b : List Nat) : ∀ n j, lastTo s b n = some j → j < n ∧ skips (s.req (b.getD j 0)) = false := by
  intro n
  induction n with
  | zero => intro j h; cases h
  | succ n ih =>
    intro j h
    unfold lastTo at h
    split at h
    · obtain ⟨h1, h2⟩ := ih j h
      exact ⟨by omega, h2⟩
    · rename_i hs
      injection h with h
      subst h
      exact ⟨by omega, by simpa using hs⟩
theorem holders_lose (s : Srv) (b : List Nat) (i : Nat) (hi : i < s.reqs.length) (hm : i ∈ b) (hh : (s.req i).holds ≠ []) : holders (s.lose i) b < holders s b := by
  have key : ∀ b : List Nat, holders (s.lose i) b ≤ holders s b ∧ (i ∈ b → holders (s.lose i) b < holders s b) := by
    intro b
    induction b with
    | nil => exact ⟨Nat.le_refl _, fun h => by cases h⟩
    | cons x b ih =>
      have e : (!((s.lose i).req x).holds.isEmpty) = (!decide (i = x) && !(s.req x).holds.isEmpty) := by
        rw [Srv.req_lose _ _ _ hi]
        by_cases e : i = x
        · simp [e]
        · simp [e]
      unfold holders at ih ⊢
      simp only [List.filter_cons, e]
      by_cases ex : i = x
      · subst ex
        have h1 : (!(s.req i).holds.isEmpty) = true := by simpa using hh
        simp [h1]
        have := ih.1
        omega
      · have h2 : (decide (i = x)) = false := by simpa using ex
        simp only [h2, Bool.not_false, Bool.true_and]
        split
        · simp only [List.length_cons]
          refine ⟨by omega, fun h => ?_⟩
          rcases List.mem_cons.1 h with h | h
          · exact absurd h ex
          · have := ih.2 h; omega
        · refine ⟨ih.1, fun h => ?_⟩
          rcases List.mem_cons.1 h with h | h
          · exact absurd h ex
          · exact ih.2 h
  exact (key b).2 hm
theorem spare_lt (s : Srv) (k : Nat) (h : s.spare = some k) : k < s.pages.length := by
  unfold Srv.spare at h
  split at h
  · rename_i j hj
    injection h with h
    subst h
    exact (List.findIdx?_eq_some_iff_getElem.1 hj).1
  · exact bestTo_lt _ _ _ h

def PageRes (w : World) (own : Nat → Slot) (P : Ptrs) (m : Nat) (r : Srv × Option Nat) (e : Ending) (w' : World) : Prop :=
  ∃ (k : Int) (own' : Nat → Slot) (P' : Ptrs), e = .returned (.tuple #[.int .i64 k, .bool r.2.isSome]) ∧ (∀ j, r.2 = some j → k = (j : Int)) ∧ Rep w' own' P' r.1 ∧ Step w own P w' own' P' m
set_option maxRecDepth 100000 in
set_option maxHeartbeats 2000000 in
theorem page_any (w : World) (own : Nat → Slot) (P : Ptrs) (s : Srv) (h : Rep w own P s) (hs : s.Ok) (b : List Nat) (hb : ∀ i ∈ b, i < s.reqs.length) (B : Option Addr) (c : Nat) (hB : Reads w (own · = .other) 1 B b.length (ptrs P.rb b)) (m : Nat) (hm : s.reqs.length ≤ m) (hbl : b.length ≤ 12) (hbc : b.length ≤ c) :
    Calls Tryz.prog 93 #[.pointer (some ⟨P.sa, 0, none⟩), .slice B b.length c] w (PageRes w own P m (s.page b)) := by
  have HH := Lib.hid h
  have HS := Lib.hid hs
  have HBM := Lib.hid hb
  have HBB := Lib.hid hB
  have HM := Lib.hid hm
  obtain ⟨n, hn⟩ : ∃ n, n = b.length := ⟨_, rfl⟩
  rw [← hn] at hB HBB hbl hbc ⊢
  have HN := Lib.hid hn
  clear h hs hb hB hn hm
  have HP : Hid (s.page b = Srv.pageL (b.length + 1) s b) := Lib.hid rfl
  generalize s.page b = res at *
  go_enter Tryz.func93, Tryz.ntmps93
  go_wp2_with fail
  have hstart : s.Ok ∧ s.reqs.length = s.reqs.length ∧ holders s b ≤ n ∧ Srv.pageL (n + 1) s b = res :=
    ⟨HS.out, rfl, by rw [HN.out]; exact List.length_filter_le _ _, by rw [HN.out]; exact HP.out.symm⟩
  have HST := Lib.hid hstart
  clear hstart
  go_loopg [6, 7, 8, 9] n (fun f _ _ _ _ wr => ∃ (s1 : Srv) (own1 : Nat → Slot) (P1 : Ptrs), Rep wr own1 P1 s1 ∧ Step w own P wr own1 P1 m ∧ Hid (s1.Ok ∧ s1.reqs.length = s.reqs.length ∧ holders s1 b ≤ f ∧ Srv.pageL (f + 1) s1 b = res))
  case atStart => exact ⟨s, own, P, HH.out, Step.refl _ _ _ _, HST.out⟩
  obtain ⟨s1, own1, P1, h1, st1, hi1⟩ := hrel
  have hsa := st1.sa
  have HI1 := Lib.hid hi1
  have hspare := spare_any wr own1 P1 s1 h1 (by have := hi1.1.npages; have := hi1.1.c.pages; omega) (fun k hk => by have := hi1.1.ptok k hk; have := hi1.1.c.pageSize; omega)
  rw [hsa] at hspare
  have HSP := Lib.hid hspare
  have H1 := Lib.hid h1
  have ST1 := Lib.hid st1
  have HSA := Lib.hid hsa
  clear hspare h1 st1 hi1 hsa
  have hok : Hid (Srv.pageL (gk + 1) s1 b = match s1.spare with
    | some k => (s1.setPage k zeroPage, some k)
    | none => match lastTo s1 b b.length with
      | none => (s1, none)
      | some j => Srv.pageL gk (s1.lose (b.getD j 0)) b) := Lib.hid rfl
  have HLT : Hid (∀ k, s1.spare = some k → k < s1.pages.length) := Lib.hid (spare_lt s1)
  generalize s1.spare = sp at *
  go_wp2_with fail
  refine HSP.out.mono ?_
  rintro e w2 ⟨k, rfl, hk, hb2⟩
  have H2 := Lib.hid (H1.out.fresh hb2)
  have ST2 := Lib.hid (ST1.out.tr (Step.fresh hb2 own1 P1 m))
  clear HSP
  cases sp with
  | some j =>
    obtain rfl := hk j rfl
    have hjl := HLT.out j rfl
    have c18 : w2.cell? ⟨P.sa, 18, none⟩ = some (.slice (some ⟨P1.pb, 0, none⟩) s1.pages.length s1.pages.length) := by rw [← HSA.out]; exact H2.out.scell 18
    have hpg := s1.pg_get j hjl
    have d0 := H2.out.pcell j _ hpg 0 (by omega)
    have d1 := H2.out.pcell j _ hpg 1 (by omega)
    have d2 := H2.out.pcell j _ hpg 2 (by omega)
    have d3 := H2.out.pcell j _ hpg 3 (by omega)
    have f0 := H2.out.pages.frozen (j * 4)
    have f1 := H2.out.pages.frozen (j * 4 + 1)
    have f2 := H2.out.pages.frozen (j * 4 + 2)
    have f3 := H2.out.pages.frozen (j * 4 + 3)
    have d0' : w2.cell? ⟨P1.pb, j * 4, none⟩ = some (.int .i64 (s1.pg j).start) := d0
    have d1' : w2.cell? ⟨P1.pb, j * 4 + 1, none⟩ = some (P1.vpage j) := d1
    have d2' : w2.cell? ⟨P1.pb, j * 4 + 2, none⟩ = some (.int .i64 (s1.pg j).owners) := d2
    have d3' : w2.cell? ⟨P1.pb, j * 4 + 3, none⟩ = some (.int .i64 (s1.pg j).used) := d3
    have hj0 : (0 : Int) ≤ j := by omega
    have hj1 : (j : Int) < s1.pages.length := by omega
    have hpl64 : s1.pages.length ≤ 64 := by have := HI1.out.1.npages; have := HI1.out.1.c.pages; omega
    clear hk hpg d0 d1 d2 d3 hb2
    go_wp2_with fail
    go_ret2
    obtain ⟨h3, st3⟩ := H2.out.putPage j hjl 0 0 0 m
    have hres : res = (s1.setPage j zeroPage, some j) := by rw [← HI1.out.2.2.2, hok.out]
    rw [hres]
    exact ⟨j, _, _, rfl, (by intro q h; injection h with h; rw [h]), h3, ST2.out.tr st3⟩
  | none =>
    clear hk HLT
    have hn1 : (n : Int) ≤ 12 := by omega
    have hrd := HBB.out.keeps ST2.out.keeps (fun i h1 h2 => h2 h1)
    have HRD := Lib.hid hrd
    have HB2 := Lib.hid hb2
    clear hrd hb2
    go_wp2_with fail
    go_loop [8] (fun x => ∃ j : Nat, j ≤ n ∧ x = .int .i64 ((j : Int) - 1) ∧ Hid (lastTo s1 b j = lastTo s1 b b.length)) (fun x => (intOf x + 1).toNat)
    case atStart => exact ⟨n, Nat.le_refl _, rfl, by show _ = _; rw [HN.out]⟩
    case round =>
      obtain ⟨j, hj, rfl, HJ⟩ := hrel
      cases j with
      | zero =>
        have e0 : (((0 : Nat) : Int) - 1) = -1 := rfl
        rw [e0]
        clear e0
        go_wp2_with fail
        go_ret2
        have hres : res = (s1, none) := by
          rw [← HI1.out.2.2.2, hok.out]
          have := HJ.out
          simp only [lastTo] at this
          rw [← this]
        rw [hres]
        exact ⟨0, _, _, rfl, (by intro q h; cases h), H2.out, ST2.out⟩
      | succ j =>
        have e0 : (((j + 1 : Nat) : Int) - 1) = (j : Int) := by omega
        rw [e0]
        clear e0
        have hjn : j < n := by omega
        have hjl : j < b.length := by rw [← HN.out]; exact hjn
        obtain ⟨ad, u, rfl, -, -, hu, hcj⟩ := HRD.out.at_ hjn
        rw [ptrs_get _ _ _ hjl] at hu
        injection hu with hu
        subst hu
        have him : b[j] ∈ b := List.getElem_mem hjl
        have hgd : b.getD j 0 = b[j] := by rw [List.getD_eq_getElem?_getD, List.getElem?_eq_getElem hjl]; rfl
        generalize b[j] = i at *
        have hil0 := HBM.out i him
        have hil : i < s1.reqs.length := by rw [HI1.out.2.1]; exact hil0
        have hrb := ST1.out.rb i (Nat.lt_of_lt_of_le hil0 HM.out)
        have hir := s1.req_get i hil
        have hq := H2.out.req i hil
        have hri : s1.reqs[i] = s1.req i := by rw [List.getElem?_eq_getElem hil] at hir; injection hir
        rw [hri] at hq
        obtain ⟨A, ca, hv, hc1, hc2⟩ := hq.holds.shape
        have c7 := H2.out.rcell i _ hir 7
        have c12 := H2.out.rcell i _ hir 12
        rw [hrb] at c7 c12
        have c7' : w2.cell? ⟨P.rb i, 7, none⟩ = some (.slice A (s1.req i).holds.length ca) := by rw [c7, ← hv]; rfl
        have c12' : w2.cell? ⟨P.rb i, 12, none⟩ = some (.bool (s1.req i).worked) := c12
        have HLS : Hid (lastTo s1 b (j + 1) = if skips (s1.req i) then lastTo s1 b j else some j) := by show _ = _; rw [← hgd]; rfl
        have HSK : Hid (skips (s1.req i) = ((s1.req i).holds.isEmpty || (s1.req i).worked)) := Lib.hid rfl
        obtain ⟨hl, hhl⟩ : ∃ hl, hl = (s1.req i).holds.length := ⟨_, rfl⟩
        obtain ⟨wk, hwk⟩ : ∃ wk, wk = (s1.req i).worked := ⟨_, rfl⟩
        rw [← hhl] at c7'
        rw [← hwk] at c12'
        have HHL := Lib.hid hhl
        have HWK := Lib.hid hwk
        have HIR := Lib.hid hir
        have HGD := Lib.hid hgd
        have HIL := Lib.hid hil
        have HRB := Lib.hid hrb
        have HIM := Lib.hid him
        clear c7 c12 hv hc1 hc2 hq hri hir hhl hwk hgd hil hil0 hrb hjl him
        by_cases h0 : hl = 0
        · subst h0
          go_wp2_with fail
          go_round
          case rel =>
            refine ⟨j, by omega, rfl, ?_⟩
            show _ = _
            rw [← HJ.out, HLS.out, if_pos]
            rw [HSK.out, List.isEmpty_iff.2 (List.length_eq_zero_iff.1 HHL.out.symm)]
            rfl
          case measure => simp [intOf]
        · have h0' : ((hl : Int) == 0) = false := by simpa using h0
          have hne : (s1.req i).holds ≠ [] := fun e => h0 (by rw [HHL.out, e]; rfl)
          have HNE := Lib.hid hne
          clear hne
          cases wk
          · have hfound : lastTo s1 b b.length = some j := by
              rw [← HJ.out, HLS.out, if_neg]
              rw [HSK.out, ← HWK.out]
              have := HNE.out
              cases h : (s1.req i).holds with
              | nil => exact absurd h this
              | cons a l => simp
            have HF := Lib.hid hfound
            clear hfound
            have hgb := giveBack_any w2 own1 P1 s1 H2.out i HIL.out (HI1.out.1.reqs i HIL.out).holds m
            rw [HSA.out, HRB.out] at hgb
            have HGB := Lib.hid hgb
            clear hgb
            have hj0 : (0 : Int) ≤ j := by omega
            have hj1 : (j : Int) < n := by omega
            go_wp2_with fail
            refine HGB.out.mono ?_
            rintro e w3 ⟨rfl, own3, P3, h3, st3⟩
            have hil3 : i < (s1.giveBack i).reqs.length := by rw [Srv.giveBack_length]; exact HIL.out
            have hir3 : (s1.giveBack i).reqs[i]? = some { s1.req i with holds := [], entries := 0 } := List.getElem?_set_self HIL.out
            have hrb3 := st3.rb i (Nat.lt_of_lt_of_le (by rw [← HI1.out.2.1]; exact HIL.out) HM.out)
            rw [HRB.out] at hrb3
            have c13 := h3.rcell i _ hir3 13
            have f13 := h3.rfree i hil3 13
            rw [hrb3] at c13 f13
            have c13' : w3.cell? ⟨P.rb i, 13, none⟩ = some (.bool (s1.req i).lost) := c13
            obtain ⟨h4, st4⟩ := h3.reqSame i 13 _ { s1.req i with holds := [], entries := 0, lost := true } hir3 rfl rfl rfl rfl (u := .bool true) rfl m
            rw [hrb3] at h4 st4
            have hrd3 := HBB.out.keeps (ST2.out.tr st3).keeps (fun i h1 h2 => h2 h1)
            obtain ⟨ad', u, e, -, -, hu, hcj3⟩ := hrd3.at_ hjn
            injection e with e
            subst e
            have hjl : j < b.length := by rw [← HN.out]; exact hjn
            rw [ptrs_get _ _ _ hjl] at hu
            injection hu with hu
            subst hu
            have hgd2 : b[j] = i := by have := HGD.out; rw [List.getD_eq_getElem?_getD, List.getElem?_eq_getElem hjl] at this; exact this
            rw [hgd2] at hcj3
            have H4 := Lib.hid h4
            have ST4 := Lib.hid (st3.tr st4)
            clear h3 st3 h4 st4 hir3 hil3 hrb3 c13 hrd3 hgd2
            go_wp2_with fail
            have hlt := holders_lose s1 b i HIL.out HIM.out HNE.out
            have hgk : 1 ≤ gk := by have := HI1.out.2.2.1; omega
            go_roundg (gk - 1)
            case measure => omega
            case rel =>
              refine ⟨s1.lose i, own3, P3, H4.out, ST2.out.tr ST4.out, ?_⟩
              refine And.intro (HI1.out.1.lose i HIL.out) (And.intro (by rw [Srv.lose_length]; exact HI1.out.2.1) (And.intro (by have := HI1.out.2.2.1; omega) ?_))
              rw [← HI1.out.2.2.2, hok.out, HF.out]
              show _ = Srv.pageL gk (s1.lose (b.getD j 0)) b
              rw [HGD.out, show gk - 1 + 1 = gk by omega]
          · go_wp2_with fail
            go_round
            case rel =>
              refine ⟨j, by omega, rfl, ?_⟩
              show _ = _
              rw [← HJ.out, HLS.out, if_pos]
              rw [HSK.out, ← HWK.out]
              simp
            case measure => simp [intOf]
end Go.Proofs.YtedkfehdfmimoaaGreat

namespace Go.Proofs.YtedkfehdfmimoaaGreat
open Go.RowKit

/-- a request without what paging turns -/
def core (r : Req) : Req := { r with holds := [], entries := 0, worked := false, lost := false }
structure PSame (s s' : Srv) : Prop where
  M : s'.M = s.M
  c : s'.c = s.c
  now : s'.now = s.now
  log : s'.log = s.log
  records : s'.records = s.records
  synced : s'.synced = s.synced
  replay : s'.replay = s.replay
  nreqs : s'.reqs.length = s.reqs.length
  npages : s'.pages.length = s.pages.length
  core : ∀ j, core (s'.req j) = core (s.req j)
theorem PSame.refl (s : Srv) : PSame s s := ⟨rfl, rfl, rfl, rfl, rfl, rfl, rfl, rfl, rfl, fun _ => rfl⟩
theorem PSame.trans {a b c : Srv} (h : PSame a b) (k : PSame b c) : PSame a c :=
  ⟨k.M.trans h.M, k.c.trans h.c, k.now.trans h.now, k.log.trans h.log, k.records.trans h.records, k.synced.trans h.synced, k.replay.trans h.replay, k.nreqs.trans h.nreqs, k.npages.trans h.npages, fun j => (k.core j).trans (h.core j)⟩
theorem PSame.setReq (s : Srv) (i : Nat) (hi : i < s.reqs.length) (r : Req) (hr : Go.Proofs.YtedkfehdfmimoaaGreat.core r = Go.Proofs.YtedkfehdfmimoaaGreat.core (s.req i)) : PSame s (s.setReq i r) := by
  refine ⟨rfl, rfl, rfl, rfl, rfl, rfl, rfl, Srv.setReq_length _ _ _, rfl, fun j => ?_⟩
  rw [Srv.req_setReq _ _ _ _ hi]
  split
  · rename_i e; subst e; exact hr
  · rfl
theorem PSame.pages (s : Srv) (l : List Page) (hl : l.length = s.pages.length) : PSame s { s with pages := l } := ⟨rfl, rfl, rfl, rfl, rfl, rfl, rfl, rfl, hl, fun _ => rfl⟩
theorem PSame.setPage (s : Srv) (k : Nat) (p : Page) : PSame s (s.setPage k p) := PSame.pages s _ (by simp)
theorem PSame.lose (s : Srv) (i : Nat) (hi : i < s.reqs.length) : PSame s (s.lose i) := by
  unfold Srv.lose
  rw [giveBack_setReq]
  refine (PSame.pages s (backPages s.c.pageSize s.pages (s.req i).holds) (backPages_length _ _ _)).trans ?_
  refine PSame.setReq _ i ?_ _ ?_
  · exact hi
  · rfl
theorem pageL_same (b : List Nat) : ∀ (f : Nat) (s : Srv), s.Ok → (∀ i ∈ b, i < s.reqs.length) →
    (Srv.pageL f s b).1.Ok ∧ PSame s (Srv.pageL f s b).1 ∧ (∀ j, j ∉ b → (Srv.pageL f s b).1.req j = s.req j) ∧ ∀ k, (Srv.pageL f s b).2 = some k → k < s.pages.length := by
  intro f
  induction f with
  | zero => intro s hs hb; exact ⟨hs, PSame.refl s, fun _ _ => rfl, fun k h => by cases h⟩
  | succ f ih =>
    intro s hs hb
    unfold Srv.pageL
    cases hsp : s.spare with
    | some k =>
      have hk := spare_lt s k hsp
      exact ⟨hs.setPage k hk _ (Nat.zero_le _), PSame.setPage _ _ _, fun _ _ => rfl, fun j h => by injection h with h; omega⟩
    | none =>
      dsimp only
      cases hl : lastTo s b b.length with
      | none => exact ⟨hs, PSame.refl s, fun _ _ => rfl, fun k h => by cases h⟩
      | some j =>
        dsimp only
        have hj := (lastTo_lt s b _ j hl).1
        have hm : b.getD j 0 ∈ b := by
          rw [List.getD_eq_getElem?_getD, List.getElem?_eq_getElem hj]
          exact List.getElem_mem hj
        generalize b.getD j 0 = i at *
        have hi := hb i hm
        obtain ⟨a1, a2, a3, a4⟩ := ih (s.lose i) (hs.lose i hi) (fun x hx => by rw [Srv.lose_length]; exact hb x hx)
        have hp := PSame.lose s i hi
        refine ⟨a1, hp.trans a2, fun x hx => ?_, fun k hk => by rw [← hp.npages]; exact a4 k hk⟩
        rw [a3 x hx, Srv.req_lose _ _ _ hi, if_neg]
        rintro rfl
        exact hx hm
theorem page_same (s : Srv) (b : List Nat) (hs : s.Ok) (hb : ∀ i ∈ b, i < s.reqs.length) :
    (s.page b).1.Ok ∧ PSame s (s.page b).1 ∧ (∀ j, j ∉ b → (s.page b).1.req j = s.req j) ∧ ∀ k, (s.page b).2 = some k → k < s.pages.length := pageL_same b _ s hs hb

/-- the page and the request behind t tokens of fill -/
def Srv.fillTo (s : Srv) (i k t : Nat) : Srv := (s.setPage k (fillPage t (s.req i) (s.pg k))).setReq i { s.req i with entries := (s.req i).entries + t }
theorem Srv.fillTo_zero (s : Srv) (i k : Nat) (hi : i < s.reqs.length) (hk : k < s.pages.length) : s.fillTo i k 0 = s := by
  have e1 : s.reqs.set i (s.req i) = s.reqs := by
    have := s.req_get i hi
    obtain ⟨a, b⟩ := List.getElem?_eq_some_iff.1 this
    rw [← b, List.set_getElem_self]
  have e2 : s.pages.set k (s.pg k) = s.pages := by
    have := s.pg_get k hk
    obtain ⟨a, b⟩ := List.getElem?_eq_some_iff.1 this
    rw [← b, List.set_getElem_self]
  unfold Srv.fillTo Srv.setReq Srv.setPage fillPage
  simp only [List.take_zero, List.append_nil, Nat.add_zero]
  rw [e1, e2]
theorem Srv.fillTo_pg (s : Srv) (i k t : Nat) (hk : k < s.pages.length) : (s.fillTo i k t).pg k = fillPage t (s.req i) (s.pg k) := by
  have := Srv.pg_setPage s k (fillPage t (s.req i) (s.pg k)) k hk
  rw [if_pos rfl] at this
  exact this
theorem Srv.fillTo_req (s : Srv) (i k t : Nat) (hi : i < s.reqs.length) : (s.fillTo i k t).req i = { s.req i with entries := (s.req i).entries + t } := by
  unfold Srv.fillTo
  rw [Srv.req_setReq _ _ _ _ (by exact hi), if_pos rfl]
theorem Srv.fillTo_succ (s : Srv) (i k t : Nat) (hi : i < s.reqs.length) (hk : k < s.pages.length) (x : Int) (hx : (s.req i).tokens[(s.req i).entries + t]? = some x) :
    ((s.fillTo i k t).setPage k { (s.fillTo i k t).pg k with tokens := ((s.fillTo i k t).pg k).tokens ++ [x] }).setReq i { (s.fillTo i k t).req i with entries := ((s.fillTo i k t).req i).entries + 1 } = s.fillTo i k (t + 1) := by
  rw [Srv.fillTo_pg _ _ _ _ hk, Srv.fillTo_req _ _ _ _ hi]
  have e : ((s.req i).tokens.drop (s.req i).entries).take (t + 1) = ((s.req i).tokens.drop (s.req i).entries).take t ++ [x] := by
    rw [List.take_add_one, List.getElem?_drop, hx]
    rfl
  unfold Srv.fillTo Srv.setReq Srv.setPage fillPage
  dsimp only
  rw [e]
  simp [Nat.add_assoc]
theorem Srv.fill_eq (s : Srv) (i k : Nat) (hi : i < s.reqs.length) (hk : k < s.pages.length) :
    ((s.fillTo i k (fillN s.c.pageSize (s.pg k) (s.req i))).setPage k { (s.fillTo i k (fillN s.c.pageSize (s.pg k) (s.req i))).pg k with used := s.now }).setReq i { (s.fillTo i k (fillN s.c.pageSize (s.pg k) (s.req i))).req i with worked := true } = s.fill i k := by
  rw [Srv.fillTo_pg _ _ _ _ hk, Srv.fillTo_req _ _ _ _ hi]
  unfold Srv.fill Srv.fillTo Srv.setReq Srv.setPage
  dsimp only
  simp
end Go.Proofs.YtedkfehdfmimoaaGreat

namespace Go.Proofs.YtedkfehdfmimoaaGreat
open Go.RowKit

theorem shared_some {s : Srv} {i k : Nat} (h : s.shared i = some k) : (s.req i).entries % s.c.pageSize = 0 ∧ (s.req i).entries + s.c.pageSize ≤ (s.req i).tokens.length ∧ k < s.pages.length := by
  unfold Srv.shared at h
  split at h
  · cases h
  · rename_i hn
    exact ⟨by omega, by omega, (List.findIdx?_eq_some_iff_getElem.1 h).1⟩
theorem Srv.takeP_req (s : Srv) (i k : Nat) (hi : i < s.reqs.length) : (s.takeP i k).req i = { s.req i with holds := (s.req i).holds ++ [(k : Int)], entries := (s.req i).entries + s.c.pageSize } := by
  unfold Srv.takeP
  rw [Srv.req_setReq _ _ _ _ (by exact hi), if_pos rfl]
theorem Srv.takeP_ok {s : Srv} (h : s.Ok) (i k : Nat) (hi : i < s.reqs.length) (hsh : s.shared i = some k) : (s.takeP i k).Ok ∧ PSame s (s.takeP i k) := by
  obtain ⟨h1, h2, h3⟩ := shared_some hsh
  have hr := h.reqs i hi
  have hps := h.c.pageSize
  have hp := h.setPage k h3 { s.pg k with owners := wrap64 ((s.pg k).owners + 1), used := s.now } (h.ptok k h3)
  unfold Srv.takeP
  refine ⟨hp.setReq i hi _ rfl ?_, (PSame.setPage s k { s.pg k with owners := wrap64 ((s.pg k).owners + 1), used := s.now }).trans (PSame.setReq (s.setPage k { s.pg k with owners := wrap64 ((s.pg k).owners + 1), used := s.now }) i hi _ rfl)⟩
  have e : (s.setPage k { s.pg k with owners := wrap64 ((s.pg k).owners + 1), used := s.now }).pages.length = s.pages.length := Srv.setPage_length _ _ _
  refine ⟨hr.id, hr.dl, hr.prompt, hr.most, hr.seed, hr.made, hr.yet, hr.tokens, hr.toks, ?_, h2, ?_, ?_, hr.kept⟩
  · intro x hx
    rw [e]
    rcases List.mem_append.1 hx with hx | hx
    · exact hr.holds x hx
    · simp at hx; omega
  · intro _ hh
    simp at hh
  · simp only [List.length_append, List.length_singleton]
    have := hr.few
    omega
theorem shareL_succ (f : Nat) (s : Srv) (i : Nat) : Srv.shareL (f + 1) s i = match s.shared i with
    | none => s
    | some k => Srv.shareL f (s.takeP i k) i := rfl
theorem shareL_ok (i : Nat) : ∀ (f : Nat) (s : Srv), s.Ok → i < s.reqs.length → (Srv.shareL f s i).Ok ∧ PSame s (Srv.shareL f s i) ∧ (∀ j, j ≠ i → (Srv.shareL f s i).req j = s.req j) := by
  intro f
  induction f with
  | zero => intro s h _; exact ⟨h, PSame.refl s, fun _ _ => rfl⟩
  | succ f ih =>
    intro s h hi
    rw [shareL_succ]
    cases hsh : s.shared i with
    | none => exact ⟨h, PSame.refl s, fun _ _ => rfl⟩
    | some k =>
      dsimp only
      obtain ⟨a, b⟩ := Srv.takeP_ok h i k hi hsh
      obtain ⟨c, d, e⟩ := ih (s.takeP i k) a (by rw [b.nreqs]; exact hi)
      refine ⟨c, b.trans d, fun j hj => ?_⟩
      rw [e j hj]
      unfold Srv.takeP
      rw [Srv.req_setReq _ _ _ _ (by exact hi), if_neg (Ne.symm hj)]
      rfl
theorem share_ok (s : Srv) (h : s.Ok) (i : Nat) (hi : i < s.reqs.length) : (s.share i).Ok ∧ PSame s (s.share i) ∧ (∀ j, j ≠ i → (s.share i).req j = s.req j) := shareL_ok i _ s h hi
end Go.Proofs.YtedkfehdfmimoaaGreat

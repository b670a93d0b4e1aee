/- Resume. Resume, walked. The state of ServeCrashes between calls. ServeCrashes, walked. -/
import Derived.Test.YtedkfehdfmimoaaGreatKc30
import Derived.Test.YtedkfehdfmimoaaGreatKc33
import Derived.Deep.DeepCutAuto
import Derived.Deep.LoopGhost
import Derived.Deep.RegionHeld3
namespace Go.Proofs.YtedkfehdfmimoaaGreat
open Go.RowKit

/-- the record at hand, if it is whole -/
theorem read_yes (w : World) (q : Nat) (T : Nat → Prop) (A : Option Addr) (c y : Nat) (n : Nat) (hn : n ≤ 10000) (o : Cal) (hl : o.args.length ≤ 37) (rest : List Int) (hbr : isBytes rest) (hy : 11 + 4 * o.args.length ≤ y) (hy2 : y ≤ (recF n o.words ++ rest).length) (hy3 : y ≤ 1000000)
    (hr : Reads w T 1 A y (bytes ((recF n o.words ++ rest).take y))) (hc : y ≤ c) (cs : Array Value) (hsv : Blk w q 70 cs) (hcs : cs[20]? = some (.int .i64 n)) :
    Calls Tryz.prog 51 #[.pointer (some ⟨q, 0, none⟩), .slice A y c] w fun e w' => ∃ A1 c1 A2 c2, e = .returned (.tuple #[.slice A1 (1 + 4 * o.args.length) c1, .slice A2 (y - (11 + 4 * o.args.length)) c2, .bool true]) ∧ (∃ k, w' = w.drewN k) ∧
      Reads w T 1 A1 (1 + 4 * o.args.length) (bytes (bodyF o.kind o.args)) ∧ 1 + 4 * o.args.length + 4 ≤ c1 ∧ Reads w T 1 A2 (y - (11 + 4 * o.args.length)) (bytes (rest.take (y - (11 + 4 * o.args.length)))) ∧ y - (11 + 4 * o.args.length) ≤ c2 ∧ c1 ≤ c ∧ c2 ≤ c := by
  have hlen : ((recF n o.words ++ rest).take y).length = y := by rw [List.length_take]; omega
  have hb : isBytes ((recF n o.words ++ rest).take y) := isBytes_take (isBytes_append (recF_bytes n o) hbr) y
  have h1 := rec_size (n := n) (o := o) (rest := rest) (by omega) y (by omega)
  have e : (recF n o.words ++ rest).take y = recF n o.words ++ rest.take (y - (11 + 4 * o.args.length)) := by
    rw [List.take_append, List.take_of_length_le (by rw [recF_length]; omega), recF_length]
  have h2 := rec_num (n := n) (o := o) (rest := rest.take (y - (11 + 4 * o.args.length))) hn
  have h3 := rec_sum (n := n) (o := o) (rest := rest.take (y - (11 + 4 * o.args.length)))
  have h4 := rec_head (n := n) (o := o) (rest := rest.take (y - (11 + 4 * o.args.length)))
  have h5 := rec_body (n := n) (o := o) (rest := rest.take (y - (11 + 4 * o.args.length)))
  have h6 := rec_rest (n := n) (o := o) (rest := rest.take (y - (11 + 4 * o.args.length)))
  rw [← h4] at h3
  rw [← e] at h2 h3 h5 h6
  generalize hxs : (recF n o.words ++ rest).take y = xs at *
  clear hxs e h4
  subst hlen
  have key := read_good w q T A c xs hr hc hb (1 + 4 * o.args.length) h1 (by omega) (by omega) hy3 n cs hsv hcs h2 h3
  rw [h5, h6] at key
  have e7 : xs.length - (1 + 4 * o.args.length + 10) = xs.length - (11 + 4 * o.args.length) := by omega
  rw [e7] at key
  exact key
/-- nothing whole is left -/
theorem read_no (w : World) (q : Nat) (T : Nat → Prop) (A : Option Addr) (c y n : Nat) (l : List Cal) (hl : ∀ o, l[0]? = some o → o.args.length ≤ 37 ∧ y < 11 + 4 * o.args.length) (hy2 : y ≤ (recs n l).length)
    (hr : Reads w T 1 A y (bytes ((recs n l).take y))) (hc : y ≤ c) :
    Calls Tryz.prog 51 #[.pointer (some ⟨q, 0, none⟩), .slice A y c] w fun e w' => e = .returned (.tuple #[.slice none 0 0, .slice none 0 0, .bool false]) ∧ ∃ k, w' = w.drewN k := by
  have hlen : ((recs n l).take y).length = y := by rw [List.length_take]; omega
  by_cases h10 : y < 10
  · have := read_short w q A c ((recs n l).take y) (by omega)
    rwa [hlen] at this
  · cases l with
    | nil => simp [recs] at hy2; omega
    | cons o l =>
      obtain ⟨h1, h2⟩ := hl o rfl
      have hb : isBytes ((recs n (o :: l)).take y) := isBytes_take (recs_bytes n _) y
      have h3 := rec_size (n := n) (o := o) (rest := recs (n + 1) l) (by omega) y (by omega)
      have := read_cut w q T A c ((recs n (o :: l)).take y) (by rw [hlen]; exact hr) (by omega) hb (1 + 4 * o.args.length) h3 (by omega) (by omega) (by omega)
      rwa [hlen] at this

/-- What the loop of Resume keeps. -/
structure RS (w W : World) (own : Nat → Slot) (P : Ptrs) (M : Model) (c : CConf) (l : List Cal) (sa x j y : Nat) : Prop where
  rep : Rep W own P ((runC M c (l.take j)).mark 28 true)
  jl : j ≤ l.length
  len : y ≤ (recs j (l.drop j)).length
  sum : x = 28 + (recs 0 (l.take j)).length + y
  low : ∀ g, g < w.heap.size → own g = .other
  kp : Keeps (fun _ => False) w W
  esa : P.sa = sa
section
variable {w W W' : World} {own own' : Nat → Slot} {P P' : Ptrs} {M : Model} {c : CConf} {l : List Cal} {sa x j y : Nat}
theorem recs_at (l : List Cal) (j : Nat) (o : Cal) (h : l[j]? = some o) : recs j (l.drop j) = recF j o.words ++ recs (j + 1) (l.drop (j + 1)) := by
  obtain ⟨h1, h2⟩ := List.getElem?_eq_some_iff.1 h
  rw [List.drop_eq_getElem_cons h1, h2]
  rfl
theorem RS.drewN (h : RS w W own P M c l sa x j y) (k : Nat) : RS w (W.drewN k) own P M c l sa x j y := ⟨h.rep.drewN k, h.jl, h.len, h.sum, h.low, h.kp.drewN k, h.esa⟩
theorem RS.next (h : RS w W own P M c l sa x j y) (o : Cal) (ho : l[j]? = some o) (hy : 11 + 4 * o.args.length ≤ y) (rep' : Rep W' own' P' (((runC M c (l.take j)).mark 28 true).cal o).1) (st : Step W own P W' own' P' ((runC M c (l.take j)).mark 28 true).reqs.length) :
    RS w W' own' P' M c l sa x (j + 1) (y - (11 + 4 * o.args.length)) := by
  have hj : j < l.length := (List.getElem?_eq_some_iff.1 ho).1
  have e := recs_at l j o ho
  have e2 : recs 0 (l.take (j + 1)) = recs 0 (l.take j) ++ recF j o.words := by
    rw [take_succ_of l j o ho, recs_snoc, List.length_take, Nat.min_eq_left (by omega), Nat.zero_add]
  have h2 := h.len
  have h3 := h.sum
  rw [e, List.length_append, recF_length] at h2
  refine ⟨?_, hj, by omega, ?_, fun g hg => ?_, h.kp.trans st.keeps (fun i hi e => e (h.low i hi)), st.sa.trans h.esa⟩
  · rw [mark_cal] at rep'
    rw [runC_take M c l j o ho]
    exact rep'
  · rw [e2, List.length_append, recF_length]
    omega
  · rw [st.old g (Nat.lt_of_lt_of_le hg h.kp.size)]
    exact h.low g hg
theorem RS.stop (h : RS w W own P M c l sa x j y) (hs : ∀ o, l[j]? = some o → y < 11 + 4 * o.args.length) : j < l.length → x < (headF M c.ns ++ recs 0 (l.take (j + 1))).length := by
  intro hj
  obtain ⟨o, ho⟩ : ∃ o, l[j]? = some o := ⟨_, List.getElem?_eq_getElem hj⟩
  have h1 := hs o ho
  have h3 := h.sum
  rw [take_succ_of l j o ho, recs_snoc, List.length_append, headF_length, List.length_append, recF_length]
  omega
end
theorem headF_bytes (M : Model) (c : CConf) : isBytes (headF M c.ns) := by
  refine sealF_bytes (isBytes_append (isBytes_append ?_ (lowF_bytes _ _)) ?_)
  · intro x hx
    simp at hx
    omega
  · intro x hx
    obtain ⟨n, -, h⟩ := List.mem_flatMap.1 hx
    exact lowF_bytes _ _ x h
end Go.Proofs.YtedkfehdfmimoaaGreat

namespace Go.Proofs.YtedkfehdfmimoaaGreat
open Go.RowKit

theorem head_parts (M : Model) (c : CConf) (rest : List Int) : leF (((headF M c.ns ++ rest).drop 24).take 4) = codeF ((headF M c.ns ++ rest).take 24) ∧ (headF M c.ns ++ rest).take 28 = headF M c.ns ∧ (headF M c.ns ++ rest).drop 28 = rest := by
  have hl := headF_length M c
  have e : headF M c.ns = headTo M c.ns c.ns.length ++ lowF (codeF (headTo M c.ns c.ns.length)) 4 := rfl
  have h24 : (headTo M c.ns c.ns.length).length = 24 := by
    rw [e, List.length_append, lowF_length] at hl; omega
  refine ⟨?_, List.take_left' hl, List.drop_left' hl⟩
  rw [e, List.append_assoc, List.drop_left' h24, List.take_left' (lowF_length _ _), List.take_left' h24]
  obtain ⟨h1, h2⟩ := codeF_in (headTo M c.ns c.ns.length)
  exact lowF_mod _ _ h1 (by have : (256 : Int) ^ 4 = 4294967296 := rfl; omega)
set_option maxRecDepth 100000 in
set_option maxHeartbeats 4000000 in
theorem resume_any (w : World) (T T' : Nat → Prop) (M : Model) (v4 v5 v6 v7 v8 v9 v10 : Value) (h : MSl w T M v4 v5 v6 v7 v8 v9 v10) (hM : M.Ok) (hkind : M.kind = 1) (c : CConf) (hc : c.Ok) (s : Srv) (l : List Cal) (hH : Hist M c s l) (hl : l.length ≤ 500)
    (A : Option Addr) (cp x : Nat) (hx1 : 28 ≤ x) (hx2 : x ≤ s.log.length) (hx3 : x ≤ 1000000) (hr : Reads w T' 1 A x (bytes (s.log.take x))) (hcp : x ≤ cp) (hcm : cp ≤ maxLen) :
    Calls Tryz.prog 22 #[.agg #[.int .i64 M.kind, .int .i64 M.vocab, .int .i64 M.width, .int .i64 M.top, v4, v5, v6, v7, v8, v9, v10], .agg #[.int .i64 c.pages, .int .i64 c.pageSize, .int .i64 c.batch, .int .i64 c.queue], .slice A x cp] w fun e w' => ∃ own P j, j ≤ l.length ∧ (j < l.length → x < (headF M c.ns ++ recs 0 (l.take (j + 1))).length) ∧
      e = .returned (.tuple #[.pointer (some ⟨P.sa, 0, none⟩), .int .i64 0]) ∧ Rep w' own P ((runC M c (l.take j)).mark (runC M c (l.take j)).log.length false) ∧ (∀ g, g < w.heap.size → own g = .other) ∧ Below w.heap.size w w' := by
  have hin := init_ok M hM hkind c hc
  have hlog : s.log = headF M c.ns ++ recs 0 l := by
    have := hH.log_at hin (by omega) l.length (Nat.le_refl _)
    rw [List.take_length] at this
    rw [← hH.log_eq, this]
  rw [hlog, List.length_append, headF_length] at hx2
  have htake : s.log.take x = headF M c.ns ++ (recs 0 l).take (x - 28) := by
    rw [hlog, List.take_append, List.take_of_length_le (by rw [headF_length]; omega), headF_length]
  rw [htake] at hr
  replace hr := hr.old
  obtain ⟨rest, hrest⟩ : ∃ rest, rest = (recs 0 l).take (x - 28) := ⟨_, rfl⟩
  have hxl : (headF M c.ns ++ rest).length = x := by
    rw [List.length_append, headF_length, hrest, List.length_take]; omega
  have hbx : isBytes (headF M c.ns ++ rest) := by
    rw [hrest]; exact isBytes_append (headF_bytes M c) (isBytes_take (recs_bytes 0 l) _)
  rw [← hrest] at hr
  have HRE := Lib.hid hrest
  have HXL := Lib.hid hxl
  have HBX := Lib.hid hbx
  obtain ⟨ad, rfl, -⟩ := hr.2 (by omega)
  have hb0 : Below w.heap.size w ((w.alloc (.cells #[.int .i64 M.kind, .int .i64 M.vocab, .int .i64 M.width, .int .i64 M.top, v4, v5, v6, v7, v8, v9, v10] 27)).alloc (.cells #[.int .i64 c.pages, .int .i64 c.pageSize, .int .i64 c.batch, .int .i64 c.queue] 30)) := ((Below.refl _ _).alloc (Nat.le_refl _) _).alloc (by simp) _
  have HNEW := Lib.hid (new_any _ _ M v4 v5 v6 v7 v8 v9 v10 (h.fresh hb0) hM hkind c hc)
  have HR := Lib.hid hr
  have HB0 := Lib.hid hb0
  have HH := Lib.hid hH
  have HIN := Lib.hid hin
  have HX2 := Lib.hid hx2
  have HL := Lib.hid hl
  clear h hM hkind hc hb0 hr hlog htake hin hH hx2 hl hrest hxl hbx
  unfold maxLen at hcm
  go_enter Tryz.func22, Tryz.ntmps22
  go_wp2_with fail
  refine HNEW.out.mono ?_
  rintro e w1 ⟨own1, P1, rfl, rep1, low1, hb1⟩
  have hb2 := HB0.out.trans (hb1.mono HB0.out.size)
  have hlow : ∀ g, g < w.heap.size → own1 g = .other := fun g hg => low1 g (Nat.lt_of_lt_of_le hg HB0.out.size)
  have hvl := rep1.log
  rw [show (Srv.init M c).log.length = 28 from headF_length M c] at hvl
  obtain ⟨A0, c0, hv0, hc01, hc02⟩ := hvl.shape
  rw [hv0] at hvl
  have c19 : w1.cell? ⟨P1.sa, 19, none⟩ = some (.slice A0 28 c0) := by rw [← hv0]; exact rep1.scell 19
  have HV := Lib.hid hvl
  have HLOW := Lib.hid hlow
  have HB2 := Lib.hid hb2
  have REP1 := Lib.hid rep1
  clear hvl hv0 low1 hb1 hlow hb2 rep1 HNEW
  go_wp2_with fail
  obtain ⟨p1, p2, p3⟩ := head_parts M c rest
  have hbx := HBX.out
  have hxl := HXL.out
  have hr1 := HR.out.fresh HB2.out
  rw [← hxl] at hr1
  have hn1 := (fun k c' => number_part (w1.drewN k) _ ad cp _ (hr1.drewN k) (by omega) hbx 24 4 c' (by omega) (by omega) (by omega) (by omega) _ p1)
  have hn2 := (fun k c' => code_part (w1.drewN k) _ ad _ (hr1.drewN k) hbx 24 c' (by omega) (by omega))
  have hci := codeF_in ((headF M c.ns ++ rest).take 24)
  generalize codeF ((headF M c.ns ++ rest).take 24) = cf at *
  have hr28 := hr1.take (k := 28) (by omega)
  rw [Nat.mul_one, ← bytes_take, p2] at hr28
  have hcut := Reads.cut hr1 (k := 28) (cap := cp) (by omega) (by omega)
  rw [Nat.mul_one, ← bytes_drop, p3, hxl] at hcut
  have hlh := headF_length M c
  have hvr : Reads w1 (own1 · = .log) 1 A0 28 (bytes (headF M c.ns)) := HV.out.reads
  have hbe := (fun k => bequal_any (w1.drewN k) _ _ (some ad) A0 cp c0 (headF M c.ns) (headF M c.ns) (by rw [hlh]; exact hr28.drewN k) (by rw [hlh]; exact hvr.drewN k) (headF_bytes M c) (headF_bytes M c))
  rw [hlh] at hbe
  simp only [decide_true] at hbe
  have H1 := Lib.hid hn1
  have H2 := Lib.hid hn2
  have H3 := Lib.hid hbe
  have HCUT := Lib.hid hcut
  obtain ⟨ci1, ci2⟩ := hci
  clear hn1 hn2 hbe hcut hr28 hvr hlh hr1 hxl hbx p1 p2 p3
  have z1 : (28 : Int) ≤ (cp : Int) := by omega
  have z2 : (24 : Int) ≤ (cp : Int) := by omega
  have z3 : ¬ cp = 24 := by omega
  go_quiet (first
      | (go_at_call 48; with_reducible exact quiet_left (H1.out _ _))
      | (go_at_call 49; with_reducible exact quiet_left (H2.out _ _)))
  obtain ⟨n1, rfl⟩ : ∃ n1 : Nat, n1 = nq := ⟨_, rfl⟩
  go_wp2_with fail
  go_quiet ((go_at_call 50; with_reducible exact quiet_add_left (H3.out _)))
  have rep2 := (REP1.out.drewN (n1 + nq)).setServer 22 (.bool true) ((Srv.init M c).mark 28 true) rfl rfl rfl rfl rfl
  have f22 := REP1.out.sfree 22
  have c22 : w1.cell? ⟨P1.sa, 22, none⟩ = some (.bool false) := REP1.out.scell 22
  have hsa : ¬ P1.sa < w.heap.size := fun h => by
    have := HLOW.out _ h
    rw [REP1.out.oserver] at this
    cases this
  have hb3 : Below w.heap.size w ((w1.drewN (n1 + nq)).setCell ⟨P1.sa, 22, none⟩ (.bool true)) := by
    have : Below w.heap.size w (w1.drewN (n1 + nq)) := ⟨HB2.out.os, HB2.out.tape, HB2.out.output, HB2.out.size, HB2.out.block⟩
    exact this.setCell (by show w.heap.size ≤ P1.sa; omega) _
  have REP2 := Lib.hid rep2
  have HB3 := Lib.hid hb3
  have HRC : Hid (Reads ((w1.drewN (n1 + nq)).setCell ⟨P1.sa, 22, none⟩ (.bool true)) (· < w.heap.size) 1 (if cp = 28 then some ad else (some ad).map (·.add 28)) (x - 28) (bytes rest)) :=
    HCUT.out.keep (by simp [World.setCell]) (fun p _ ht => (World.cell?_setCell_other _ _ _ _ (fun e => hsa (by have e' : P1.sa = p.block := (by rw [← e]); rw [e']; exact ht))))
  clear rep2 hb3
  go_upto_region 12 with (fail)
  have rep2 := REP2.out
  have hb3 := HB3.out
  have hrc := HRC.out
  clear REP2 HB3 HRC HCUT c22 f22 c19
  generalize (w1.drewN (n1 + nq)).setCell ⟨P1.sa, 22, none⟩ (.bool true) = w2 at *
  have REP2 := Lib.hid rep2
  have HB3 := Lib.hid hb3
  have HRC := Lib.hid hrc
  clear rep2 hb3 hrc
  go_cut [2] (fun v wc => v = .slice (if cp = 28 then some ad else some { block := ad.block, off := ad.off + 28 }) (x - 28) (cp - 28) ∧ wc = w2)
  case first =>
    by_cases hcp28 : cp = 28
    · subst hcp28
      obtain rfl : x = 28 := by omega
      go_wp2_with fail
      go_meet
      exact ⟨by simp, rfl⟩
    · go_wp2_with fail
      go_meet
      exact ⟨by rw [if_neg hcp28], rfl⟩
  case rest =>
    obtain ⟨rfl, rfl⟩ := hcut
    have hrc := HRC.out
    rw [show ((some ad).map (·.add 28) : Option Addr) = some { block := ad.block, off := ad.off + 28 } from rfl, HRE.out] at hrc
    have hrs : RS w wc own1 P1 M c l P1.sa x 0 (x - 28) := ⟨REP2.out, Nat.zero_le _, by have := HX2.out; show x - 28 ≤ (recs 0 l).length; omega, by simp [recs]; omega, HLOW.out, Keeps.of_below HB3.out _, rfl⟩
    generalize (if cp = 28 then some ad else some { block := ad.block, off := ad.off + 28 }) = A2 at *
    obtain ⟨sa, hsae⟩ : ∃ sa, sa = P1.sa := ⟨_, rfl⟩
    rw [← hsae] at hrs hsa ⊢
    clear HRC REP2 HB3 REP1 HV HB2 HLOW hsae HRE HXL HBX H1 H2 H3 HB0 hc01 hc02 ci1 ci2 z1 z2 z3
    obtain ⟨y0, hy0⟩ : ∃ y0, y0 = x - 28 := ⟨_, rfl⟩
    obtain ⟨c1, hc1⟩ : ∃ c1, c1 = cp - 28 := ⟨_, rfl⟩
    have hyc : y0 ≤ c1 := by omega
    have hc2 : c1 ≤ 9223372036854775807 := by omega
    rw [← hy0] at hrs hrc ⊢
    rw [← hc1]
    clear hy0 hc1 hcm hcp
    go_wp2_with fail
    go_loopw [2] (fun v wr => ∃ (own : Nat → Slot) (P : Ptrs) (j y : Nat) (A' : Option Addr) (c' : Nat), v = .slice A' y c' ∧ y ≤ c' ∧ c' ≤ 9223372036854775807 ∧ RS w wr own P M c l sa x j y ∧ Reads wr (· < w.heap.size) 1 A' y (bytes ((recs j (l.drop j)).take y))) (fun v _ => sLen v)
    case atStart => exact ⟨own1, P1, 0, y0, A2, c1, rfl, hyc, hc2, hrs, hrc⟩
    obtain ⟨own2, P2, j, y, A3, c3, rfl, g1, g2, rs, hrd⟩ := hrel
    clear hrs hrc hyc hc2
    by_cases hgo : ∃ o, l[j]? = some o ∧ 11 + 4 * o.args.length ≤ y
    · obtain ⟨o, ho, hoy⟩ := hgo
      have hj : j < l.length := (List.getElem?_eq_some_iff.1 ho).1
      obtain ⟨a1, a2, a3, a4⟩ := HH.out.at_ HIN.out (by have := HL.out; omega) j rs.jl
      have hfew := HH.out.few o (List.mem_of_getElem? ho)
      have hok := HH.out.ok j o ho
      have hal := Cal.args_length hok
      have hrat := recs_at l j o ho
      have hlen := rs.len
      have hsum := rs.sum
      rw [hrat] at hrd hlen
      have hread := read_yes wr P2.sa (· < w.heap.size) A3 c3 y j (by have := HL.out; omega) o hal _ (recs_bytes _ _) hoy hlen (by omega) hrd g1 _ rs.rep.server (by show some (Value.int .i64 (((runC M c (l.take j)).records : Nat) : Int)) = _; rw [a4])
      rw [rs.esa] at hread
      have hcall := fun k A' c' h1 h2 h3 => call_any (wr.drewN k) own2 P2 ((runC M c (l.take j)).mark 28 true) (rs.rep.drewN k) (a1.mark 28 true) (by show (runC M c (l.take j)).records ≤ 9000; rw [a4]; have := HL.out; omega) o hfew (by rw [mark_cal]; exact hok) A' c' _ rfl (· < w.heap.size) h1 h2 h3
      rw [rs.esa] at hcall
      have hnext := fun W' own' P' k rep' st => (rs.drewN k).next (W' := W') (own' := own') (P' := P') o ho hoy rep' st
      have HREAD := Lib.hid hread
      have HCALL := Lib.hid hcall
      have HNEXT := Lib.hid hnext
      have HLOW2 := Lib.hid rs.low
      obtain ⟨B, hB⟩ : ∃ B, B = 11 + 4 * o.args.length := ⟨_, rfl⟩
      obtain ⟨N, hN⟩ : ∃ N, N = 1 + 4 * o.args.length := ⟨_, rfl⟩
      rw [← hB] at HREAD HNEXT hoy
      rw [← hN] at HREAD HCALL
      have HBB := Lib.hid hB
      have HNN := Lib.hid hN
      have hB0 : 1 ≤ B := by omega
      clear hB hN hread hcall hnext rs hrd hrat hlen hsum hok hfew a1 a2 a3 a4
      go_wp2_with fail
      refine HREAD.out.mono ?_
      rintro e w3 ⟨A5, c5, A6, c6, rfl, ⟨kk, rfl⟩, r1, r2, r3, r4, r5, r6⟩
      have HC2 := Lib.hid (HCALL.out kk A5 c5 (r1.drewN kk) (by have := HNN.out; omega) (by unfold maxLen; omega))
      have R3 := Lib.hid (r3.drewN kk)
      clear r1 r2 r3 HCALL HREAD
      go_wp2_with fail
      refine HC2.out.mono ?_
      rintro e w4 ⟨rfl, own4, P4, rep4, st4⟩
      have rs4 := HNEXT.out w4 own4 P4 kk rep4 st4
      have r7 := R3.out.keeps st4.keeps (fun i hi e => e (HLOW2.out i hi))
      clear rep4 st4 HNEXT HC2 R3
      have RS4 := Lib.hid rs4
      have R7 := Lib.hid r7
      clear rs4 r7
      go_wp2_with fail
      go_roundw
      case rel => exact ⟨own4, P4, j + 1, y - B, A6, c6, rfl, r4, by omega, by rw [HBB.out]; rw [HBB.out] at RS4; exact RS4.out, R7.out⟩
      case measure => simp [sLen]; omega
    · have hst : ∀ o, l[j]? = some o → y < 11 + 4 * o.args.length := fun o ho => by
        rcases Nat.lt_or_ge y (11 + 4 * o.args.length) with h | h
        · exact h
        · exact absurd ⟨o, ho, h⟩ hgo
      have hstop := rs.stop hst
      have hno := read_no wr P2.sa (· < w.heap.size) A3 c3 y j (l.drop j) (fun o ho => by
        rw [List.getElem?_drop, Nat.add_zero] at ho
        exact ⟨Cal.args_length (HH.out.ok j o ho), hst o ho⟩) rs.len hrd g1
      rw [rs.esa] at hno
      have hvl := rs.rep.log
      obtain ⟨Al, cl, hv, -, -⟩ := hvl.shape
      have c19 : wr.cell? ⟨sa, 19, none⟩ = some (.slice Al ((runC M c (l.take j)).mark 28 true).log.length cl) := by
        rw [← hv, ← rs.esa]; exact rs.rep.scell 19
      have c21 : wr.cell? ⟨sa, 21, none⟩ = some (.int .i64 ((28 : Nat) : Int)) := by rw [← rs.esa]; exact rs.rep.scell 21
      have c22 : wr.cell? ⟨sa, 22, none⟩ = some (.bool true) := by rw [← rs.esa]; exact rs.rep.scell 22
      have f21 : wr.frozen? ⟨sa, 21, none⟩ = false := by rw [← rs.esa]; exact rs.rep.sfree 21
      have f22 : wr.frozen? ⟨sa, 22, none⟩ = false := by rw [← rs.esa]; exact rs.rep.sfree 22
      have hlast : ∀ k, Rep (((wr.drewN k).setCell ⟨sa, 22, none⟩ (.bool false)).setCell ⟨sa, 21, none⟩ (.int .i64 (((runC M c (l.take j)).mark 28 true).log.length : Nat))) own2 P2 ((runC M c (l.take j)).mark (runC M c (l.take j)).log.length false) ∧
          Below w.heap.size w (((wr.drewN k).setCell ⟨sa, 22, none⟩ (.bool false)).setCell ⟨sa, 21, none⟩ (.int .i64 (((runC M c (l.take j)).mark 28 true).log.length : Nat))) := fun k => by
        refine ⟨?_, ?_⟩
        · have e1 := (rs.rep.drewN k).setServer 22 (.bool false) ((runC M c (l.take j)).mark 28 false) rfl rfl rfl rfl rfl
          have e2 := e1.setServer 21 (.int .i64 ((runC M c (l.take j)).log.length : Nat)) ((runC M c (l.take j)).mark (runC M c (l.take j)).log.length false) rfl rfl rfl rfl rfl
          rw [rs.esa] at e2
          exact e2
        · exact (((rs.kp.drewN k).to_below).setCell (by show w.heap.size ≤ sa; omega) _).setCell (by show w.heap.size ≤ sa; omega) _
      have HNO := Lib.hid hno
      have HLAST := Lib.hid hlast
      have HSTOP := Lib.hid hstop
      have HLOW2 := Lib.hid rs.low
      have hjl := rs.jl
      have HESA := Lib.hid rs.esa
      generalize ((runC M c (l.take j)).mark 28 true).log.length = L at *
      clear hno hlast hstop hst hgo hrd hvl hv rs
      go_wp2_with fail
      refine HNO.out.mono ?_
      rintro e w3 ⟨rfl, kk, rfl⟩
      go_wp2_with fail
      obtain rfl : sa = P2.sa := HESA.out.symm
      go_ret2
      exact ⟨own2, P2, j, hjl, HSTOP.out, rfl, (HLAST.out kk).1, HLOW2.out, (HLAST.out kk).2⟩
end Go.Proofs.YtedkfehdfmimoaaGreat

namespace Go.Proofs.YtedkfehdfmimoaaGreat
open Go.RowKit

theorem cal_mark (s : Srv) (o : Cal) : (s.cal o).1.synced = s.synced ∧ (s.cal o).1.replay = s.replay := by
  have h := congrArg Prod.fst (mark_cal s s.synced s.replay o)
  rw [mark_self] at h
  have h2 : (s.cal o).1 = (s.cal o).1.mark s.synced s.replay := h
  rw [h2]
  exact ⟨rfl, rfl⟩
/-- the calls so far, with one more if it succeeds -/
def addC (s : Srv) (h : List Cal) (o : Cal) : List Cal := if (s.cal o).2 = 0 then h ++ [o] else h
theorem addC_length (s : Srv) (h : List Cal) (o : Cal) : (addC s h o).length ≤ h.length + 1 := by unfold addC; split <;> simp
structure CrS (C : CConf) (s : Srv) (hist : List Cal) : Prop where
  H : Hist demoM C s hist
  rp : s.replay = false
  sy : 28 ≤ s.synced ∧ s.synced ≤ s.log.length
  C : C.Ok
section
variable {C : CConf} {s : Srv} {hist : List Cal}
theorem CrS.ini (hc : C.Ok) : (Srv.init demoM C).Ok := init_ok demoM demo_ok rfl C hc
theorem CrS.start (hc : C.Ok) : CrS C (Srv.init demoM C) [] := ⟨Hist.init _ _, rfl, ⟨Nat.le_refl _, by show 28 ≤ (headF demoM C.ns).length; rw [headF_length]; exact Nat.le_refl _⟩, hc⟩
theorem CrS.at_ (h : CrS C s hist) (hl : hist.length ≤ 500) : At demoM C hist.length s := h.H.inv (CrS.ini h.C) (by omega)
theorem CrS.log (h : CrS C s hist) (hl : hist.length ≤ 500) : s.log.length ≤ 1000000 := by
  have a := h.at_ hl
  have := a.inv.ok.log
  have := a.records
  omega
theorem CrS.cal (h : CrS C s hist) (hl : hist.length ≤ 500) (o : Cal) (hf : o.Few) : CrS C (s.cal o).1 (addC s hist o) := by
  unfold addC
  obtain ⟨m1, m2⟩ := cal_mark s o
  by_cases h0 : (s.cal o).2 = 0
  · rw [if_pos h0]
    have a := h.at_ hl
    have hlog := cal_log s a.inv (by have := a.records; omega) o h0
    exact ⟨h.H.cal o hf h0, by rw [m2]; exact h.rp, by rw [m1, hlog, List.length_append]; have := h.sy; omega, h.C⟩
  · rw [if_neg h0, cal_no s o h0]
    exact h
theorem CrS.sync (h : CrS C s hist) : CrS C { s with synced := s.log.length } hist :=
  ⟨by have := h.H.mark s.log.length s.replay; exact this, h.rp, ⟨by show 28 ≤ s.log.length; have := h.sy; omega, Nat.le_refl _⟩, h.C⟩
theorem CrS.back (h : CrS C s hist) (hl : hist.length ≤ 500) (j : Nat) (hj : j ≤ hist.length) : CrS C ((runC demoM C (hist.take j)).mark (runC demoM C (hist.take j)).log.length false) (hist.take j) := by
  refine ⟨(h.H.take j).mark _ _, rfl, ⟨?_, Nat.le_refl _⟩, h.C⟩
  show 28 ≤ (runC demoM C (hist.take j)).log.length
  rw [h.H.log_at (CrS.ini h.C) (by omega) j hj, List.length_append, headF_length]
  omega
end

theorem answer_len {s : Srv} (hs : s.Ok) (id : Int) : (s.answer id).1.length ≤ 1000000 := by
  unfold Srv.answer
  cases hf : s.find id with
  | none => exact Nat.zero_le _
  | some i =>
    obtain ⟨f1, -⟩ := find_some hf
    have h := hs.reqs i f1
    have h1 := h.tokens
    have h2 := h.made
    have h3 := h.most
    have h4 := h.prompt
    dsimp only
    split
    · split
      · exact Nat.zero_le _
      · show (List.drop _ _).length ≤ _
        rw [List.length_drop]
        omega
    · exact Nat.zero_le _
/-- What the loops keep. -/
structure CrK (W0 W : World) (p : Nat) (A : Option Addr) (n c : Nat) (l : List Int) (q4 q5 B : Nat) (v4 v5 v6 v7 v8 v9 v10 : Value) (C : CConf) (own : Nat → Slot) (P : Ptrs) (s : Srv) (a' : Int) (hist : List Cal) : Prop where
  K : LawK W0 W p A n c l q4 B v4 v5 v6 v7 v8 v9 v10 own P s a'
  k5 : Blk W q5 30 #[.int .i64 C.pages, .int .i64 C.pageSize, .int .i64 C.batch, .int .i64 6]
  q5B : q5 < B
  q5p : q5 ≠ p
  S : CrS C s hist
section
variable {W0 W W' : World} {p : Nat} {A : Option Addr} {n c : Nat} {l : List Int} {q4 q5 B : Nat} {v4 v5 v6 v7 v8 v9 v10 : Value} {C : CConf} {own own' : Nat → Slot} {P P' : Ptrs} {s s' : Srv} {a' a2 : Int} {hist hist' : List Cal}
theorem CrK.stream (h : CrK W0 W p A n c l q4 q5 B v4 v5 v6 v7 v8 v9 v10 C own P s a' hist) (hs : Str W' p A n c l a2) (hk : Keeps (· = p) W W') : CrK W0 W' p A n c l q4 q5 B v4 v5 v6 v7 v8 v9 v10 C own P s a2 hist :=
  ⟨h.K.stream hs hk, hk.blk h.k5 h.q5p, h.q5B, h.q5p, h.S⟩
theorem CrK.fresh (h : CrK W0 W p A n c l q4 q5 B v4 v5 v6 v7 v8 v9 v10 C own P s a' hist) (hb : Below W.heap.size W W') : CrK W0 W' p A n c l q4 q5 B v4 v5 v6 v7 v8 v9 v10 C own P s a' hist :=
  ⟨h.K.fresh hb, h.k5.below hb h.k5.lt, h.q5B, h.q5p, h.S⟩
theorem CrK.drewN (h : CrK W0 W p A n c l q4 q5 B v4 v5 v6 v7 v8 v9 v10 C own P s a' hist) (k : Nat) : CrK W0 (W.drewN k) p A n c l q4 q5 B v4 v5 v6 v7 v8 v9 v10 C own P s a' hist := h.fresh ⟨rfl, rfl, rfl, Nat.le_refl _, fun _ _ => rfl⟩
theorem CrK.step {m : Nat} (h : CrK W0 W p A n c l q4 q5 B v4 v5 v6 v7 v8 v9 v10 C own P s a' hist) (rep' : Rep W' own' P' s') (st : Step W own P W' own' P' m) (hS : CrS C s' hist') : CrK W0 W' p A n c l q4 q5 B v4 v5 v6 v7 v8 v9 v10 C own' P' s' a' hist' :=
  ⟨h.K.step rep' st, st.keeps.blk h.k5 (fun e => e (h.K.low _ h.q5B)), h.q5B, h.q5p, hS⟩
theorem CrK.cal {m : Nat} (h : CrK W0 W p A n c l q4 q5 B v4 v5 v6 v7 v8 v9 v10 C own P s a' hist) (hl : hist.length ≤ 500) (o : Cal) (hf : o.Few) (rep' : Rep W' own' P' (s.cal o).1) (st : Step W own P W' own' P' m) :
    CrK W0 W' p A n c l q4 q5 B v4 v5 v6 v7 v8 v9 v10 C own' P' (s.cal o).1 a' (addC s hist o) := h.step rep' st (h.S.cal hl o hf)
theorem CrK.next (h : CrK W0 W p A n c l q4 q5 B v4 v5 v6 v7 v8 v9 v10 C own P s a' hist) (hb : Below W.heap.size W W') (rep' : Rep W' own' P' s') (low : ∀ g, g < W.heap.size → own' g = .other) (hS : CrS C s' hist') :
    CrK W0 W' p A n c l q4 q5 B v4 v5 v6 v7 v8 v9 v10 C own' P' s' a' hist' :=
  ⟨h.K.keep (S := fun _ => False) (Keeps.of_below hb _) (fun _ _ e => e.elim) rep' (fun g hg => low g (Nat.lt_of_lt_of_le hg h.K.sz)) ((h.K.str.fresh hb).blk) h.K.str.at0, h.k5.below hb h.k5.lt, h.q5B, h.q5p, hS⟩
end
end Go.Proofs.YtedkfehdfmimoaaGreat

namespace Go.Proofs.YtedkfehdfmimoaaGreat
open Go.RowKit

theorem Slc.slc {w : World} {T : Nat → Prop} {v : Value} {xs : List Int} (h : Slc w T v xs) : ∃ A N c, v = .slice A N c := by
  obtain ⟨A, c, h, -⟩ := h
  exact ⟨A, _, c, h⟩
theorem Keeps.ofDrew {S : Nat → Prop} {w w' : World} (h : Keeps S w.drew w') : Keeps S w w' := ⟨h.os, h.tape, h.output, h.size, h.block⟩
theorem three_conf (x1 x2 x3 : Int) (h1 : 2 ≤ x1 ∧ x1 ≤ 6) (h2 : 1 ≤ x2 ∧ x2 ≤ 3) (h3 : 1 ≤ x3 ∧ x3 ≤ 3) : ∃ c : CConf, c.Ok ∧ x1 = c.pages ∧ x2 = c.pageSize ∧ x3 = c.batch ∧ c.queue = 6 :=
  ⟨⟨x1.toNat, x2.toNat, x3.toNat, 6⟩, ⟨by show 1 ≤ x1.toNat ∧ x1.toNat ≤ 64; omega, by show 1 ≤ x2.toNat ∧ x2.toNat ≤ 8; omega, by show 1 ≤ x3.toNat ∧ x3.toNat ≤ 16; omega, by show 1 ≤ 6 ∧ 6 ≤ 32; omega⟩,
    by show x1 = (x1.toNat : Int); omega, by show x2 = (x2.toNat : Int); omega, by show x3 = (x3.toNat : Int); omega, rfl⟩

set_option maxRecDepth 100000 in
set_option maxHeartbeats 8000000 in
theorem serveCrashes_walk (w : World) (A : Option Addr) (n c : Nat) (l : List Int) (hr : Reads w (fun _ => True) 1 A n (ints l)) (hwf : ∀ x ∈ l, -9223372036854775808 ≤ x ∧ x ≤ 9223372036854775807) (hn : n ≤ 9223372036854775807) :
    Calls Tryz.prog 4 #[.slice A n c] w fun e w' => e = .returned (.bool true) ∧ Below w.heap.size w w' := by
  have hs0 : Str (w.alloc (.cells #[.slice A n c, .int .i64 0] 25)) w.heap.size A n c l 0 := by
    refine ⟨Blk.new _ _ _, ?_, hwf, hn, Int.le_refl 0⟩
    have := (hr.old.alloc (.cells #[.slice A n c, .int .i64 0] 25))
    exact this.more fun b _ h => Nat.ne_of_lt h
  have HS0 := Lib.hid hs0
  have hp0 : w.heap.size < (w.alloc (.cells #[.slice A n c, .int .i64 0] 25)).heap.size := by simp
  have hbw0 : Below w.heap.size w (w.alloc (.cells #[.slice A n c, .int .i64 0] 25)) := (Below.refl _ _).alloc (Nat.le_refl _) _
  have HW0 : Hid (∀ W, Keeps (· = w.heap.size) (w.alloc (.cells #[.slice A n c, .int .i64 0] 25)) W → Below w.heap.size w W) := Lib.hid fun W k =>
    ⟨k.os.trans hbw0.os, k.tape.trans hbw0.tape, k.output.trans hbw0.output, Nat.le_trans hbw0.size k.size, fun g hg => (k.block g (by omega) (by omega)).trans (hbw0.block g hg)⟩
  have HNEW : Hid (∀ (C : CConf) (hc : C.Ok) (hq : C.queue = 6) (w : World) (T : Nat → Prop) (v4 v5 v6 v7 v8 v9 v10 : Value), MSl w T demoM v4 v5 v6 v7 v8 v9 v10 → Calls Tryz.prog 7 #[.agg #[.int .i64 1, .int .i64 8, .int .i64 4, .int .i64 8, v4, v5, v6, v7, v8, v9, v10], .agg #[.int .i64 C.pages, .int .i64 C.pageSize, .int .i64 C.batch, .int .i64 6]] w fun e w' => ∃ own P, e = .returned (.tuple #[.pointer (some ⟨P.sa, 0, none⟩), .int .i64 0]) ∧ Rep w' own P (Srv.init demoM C) ∧ (∀ g, g < w.heap.size → own g = .other) ∧ Below w.heap.size w w') :=
    Lib.hid (fun C hc hq w T v4 v5 v6 v7 v8 v9 v10 h => by
      have := new_any w T demoM v4 v5 v6 v7 v8 v9 v10 h demo_ok rfl C hc
      rw [hq] at this
      exact this)
  have HRES : Hid (∀ (C : CConf) (hc : C.Ok) (hq : C.queue = 6) (w : World) (T T' : Nat → Prop) (v4 v5 v6 v7 v8 v9 v10 : Value), MSl w T demoM v4 v5 v6 v7 v8 v9 v10 → ∀ (s : Srv) (h : List Cal), Hist demoM C s h → h.length ≤ 500 → ∀ (A : Option Addr) (cp x : Nat), 28 ≤ x → x ≤ s.log.length → x ≤ 1000000 → Reads w T' 1 A x (bytes (s.log.take x)) → x ≤ cp → cp ≤ maxLen →
      Calls Tryz.prog 22 #[.agg #[.int .i64 1, .int .i64 8, .int .i64 4, .int .i64 8, v4, v5, v6, v7, v8, v9, v10], .agg #[.int .i64 C.pages, .int .i64 C.pageSize, .int .i64 C.batch, .int .i64 6], .slice A x cp] w fun e w' => ∃ own P j, j ≤ h.length ∧ (j < h.length → x < (headF demoM C.ns ++ recs 0 (h.take (j + 1))).length) ∧
        e = .returned (.tuple #[.pointer (some ⟨P.sa, 0, none⟩), .int .i64 0]) ∧ Rep w' own P ((runC demoM C (h.take j)).mark (runC demoM C (h.take j)).log.length false) ∧ (∀ g, g < w.heap.size → own g = .other) ∧ Below w.heap.size w w') :=
    Lib.hid (fun C hc hq w T T' v4 v5 v6 v7 v8 v9 v10 h s hi hH hl A cp x h1 h2 h3 h4 h5 h6 => by
      have := resume_any w T T' demoM v4 v5 v6 v7 v8 v9 v10 h demo_ok rfl C hc s hi hH hl A cp x h1 h2 h3 h4 h5 h6
      rw [hq] at this
      exact this)
  have HASK : Hid (∀ (w : World) (p : Nat) (A : Option Addr) (n c : Nat) (l : List Int) (a : Int), Str w p A n c l a → a ≤ 900000 → ∀ (v4 v5 v6 v7 v8 v9 v10 : Value) (now : Int), 0 ≤ now ∧ now ≤ 10000 →
      Calls Tryz.prog 11 #[.pointer (some ⟨p, 0, none⟩), .agg #[.int .i64 1, .int .i64 8, .int .i64 4, .int .i64 8, v4, v5, v6, v7, v8, v9, v10], .int .i64 now] w (AskPost w p A n c l a 60 fun r => r.id ≤ 9 ∧ 0 ≤ r.deadline ∧ r.deadline ≤ now + 30 ∧ r.prompt.length ≤ 100)) :=
    Lib.hid fun w p A n c l a h ha v4 v5 v6 v7 v8 v9 v10 now hn => asked_any w p A n c l a h ha demoM v4 v5 v6 v7 v8 v9 v10 ⟨by decide, by decide⟩ now hn
  have HST : Hid (∀ (C : CConf), C.Ok → CrS C (Srv.init demoM C) []) := Lib.hid fun C hc => CrS.start hc
  clear hr hwf hn hs0 hbw0
  go_enter Tryz.func4, Tryz.ntmps4
  go_wp2_with fail
  generalize w.alloc (.cells #[.slice A n c, .int .i64 0] 25) = w0 at *
  refine (demo_any w0).mono ?_
  rintro e w1 ⟨v4, v5, v6, v7, v8, v9, v10, rfl, hm1, hb1⟩
  have HM1 := Lib.hid hm1
  have HS1 := Lib.hid (HS0.out.fresh hb1)
  have HB1 := Lib.hid hb1
  have hz1 := hb1.size
  obtain ⟨A4, N4, c4, rfl⟩ := hm1.cuts.slc
  obtain ⟨A5, N5, c5, rfl⟩ := hm1.embed.slc
  obtain ⟨A6, N6, c6, rfl⟩ := hm1.place.slc
  obtain ⟨A7, N7, c7, rfl⟩ := hm1.mix.slc
  obtain ⟨A8, N8, c8, rfl⟩ := hm1.out.slc
  obtain ⟨A9, N9, c9, rfl⟩ := hm1.soft.slc
  obtain ⟨A10, N10, c10, rfl⟩ := hm1.odds.slc
  clear hm1 hb1
  go_wp2_with fail
  refine (range_any w1 w.heap.size A n c l 0 _ _ HS1.out (by omega) (by omega) (by omega) (by omega)).mono ?_
  rintro e w2 ⟨x1, a1, rfl, ⟨b1, b1'⟩, g1, g1', hs2, k2⟩
  have HS2 := Lib.hid hs2
  have K2 := Lib.hid k2
  clear hs2 k2
  go_wp2_with fail
  refine (range_any w2 w.heap.size A n c l a1 _ _ HS2.out (by omega) (by omega) (by omega) (by omega)).mono ?_
  rintro e w3 ⟨x2, a2, rfl, ⟨b2, b2'⟩, g2, g2', hs3, k3⟩
  have HS3 := Lib.hid hs3
  have K3 := Lib.hid (K2.out.tr k3)
  clear hs3 k3
  go_wp2_with fail
  refine (range_any w3 w.heap.size A n c l a2 _ _ HS3.out (by omega) (by omega) (by omega) (by omega)).mono ?_
  rintro e w4 ⟨x3, a3, rfl, ⟨b3, b3'⟩, g3, g3', hs4, k4⟩
  have hz4 := (K3.out.tr k4).size
  have HS4 := Lib.hid hs4
  have KA := Lib.hid ((Keeps.of_below HB1.out (· = w.heap.size)).tr (K3.out.tr k4))
  have HM4 := Lib.hid (HM1.out.keeps (K3.out.tr k4) (fun i hi e => by omega))
  clear hs4 k4 HM1 HS1 HB1 K2 K3
  obtain ⟨C, hc, rfl, rfl, rfl, hq6⟩ := three_conf x1 x2 x3 ⟨b1, b1'⟩ ⟨b2, b2'⟩ ⟨b3, b3'⟩
  have HCO := Lib.hid hc
  have HQ6 := Lib.hid hq6
  clear hc hq6 b1 b1' b2 b2' b3 b3'
  go_wp2_with fail
  have hk4 := (Blk.new w4 27 #[.int .i64 1, .int .i64 8, .int .i64 4, .int .i64 8, .slice A4 N4 c4, .slice A5 N5 c5, .slice A6 N6 c6, .slice A7 N7 c7, .slice A8 N8 c8, .slice A9 N9 c9, .slice A10 N10 c10]).alloc (.cells #[.int .i64 C.pages, .int .i64 C.pageSize, .int .i64 C.batch, .int .i64 6] 30)
  have hk5 := Blk.new (w4.alloc (.cells #[.int .i64 1, .int .i64 8, .int .i64 4, .int .i64 8, .slice A4 N4 c4, .slice A5 N5 c5, .slice A6 N6 c6, .slice A7 N7 c7, .slice A8 N8 c8, .slice A9 N9 c9, .slice A10 N10 c10] 27)) 30 #[.int .i64 C.pages, .int .i64 C.pageSize, .int .i64 C.batch, .int .i64 6]
  have hmm := (HM4.out.alloc (.cells #[.int .i64 1, .int .i64 8, .int .i64 4, .int .i64 8, .slice A4 N4 c4, .slice A5 N5 c5, .slice A6 N6 c6, .slice A7 N7 c7, .slice A8 N8 c8, .slice A9 N9 c9, .slice A10 N10 c10] 27)).alloc (.cells #[.int .i64 C.pages, .int .i64 C.pageSize, .int .i64 C.batch, .int .i64 6] 30)
  have hka := (KA.out.alloc (.cells #[.int .i64 1, .int .i64 8, .int .i64 4, .int .i64 8, .slice A4 N4 c4, .slice A5 N5 c5, .slice A6 N6 c6, .slice A7 N7 c7, .slice A8 N8 c8, .slice A9 N9 c9, .slice A10 N10 c10] 27)).alloc (.cells #[.int .i64 C.pages, .int .i64 C.pageSize, .int .i64 C.batch, .int .i64 6] 30)
  have hsa := (HS4.out.alloc (.cells #[.int .i64 1, .int .i64 8, .int .i64 4, .int .i64 8, .slice A4 N4 c4, .slice A5 N5 c5, .slice A6 N6 c6, .slice A7 N7 c7, .slice A8 N8 c8, .slice A9 N9 c9, .slice A10 N10 c10] 27)).alloc (.cells #[.int .i64 C.pages, .int .i64 C.pageSize, .int .i64 C.batch, .int .i64 6] 30)
  have hzz : ((w4.alloc (.cells #[.int .i64 1, .int .i64 8, .int .i64 4, .int .i64 8, .slice A4 N4 c4, .slice A5 N5 c5, .slice A6 N6 c6, .slice A7 N7 c7, .slice A8 N8 c8, .slice A9 N9 c9, .slice A10 N10 c10] 27)).alloc (.cells #[.int .i64 C.pages, .int .i64 C.pageSize, .int .i64 C.batch, .int .i64 6] 30)).heap.size = w4.heap.size + 2 := by simp
  rw [show (w4.alloc (.cells #[.int .i64 1, .int .i64 8, .int .i64 4, .int .i64 8, .slice A4 N4 c4, .slice A5 N5 c5, .slice A6 N6 c6, .slice A7 N7 c7, .slice A8 N8 c8, .slice A9 N9 c9, .slice A10 N10 c10] 27)).heap.size = w4.heap.size + 1 by simp] at hk5
  have HK4 := Lib.hid hk4
  have HK5 := Lib.hid hk5
  have HMM := Lib.hid hmm
  have HKA := Lib.hid hka
  have HSA := Lib.hid hsa
  clear hk4 hk5 hmm hka hsa
  generalize (w4.alloc (.cells #[.int .i64 1, .int .i64 8, .int .i64 4, .int .i64 8, .slice A4 N4 c4, .slice A5 N5 c5, .slice A6 N6 c6, .slice A7 N7 c7, .slice A8 N8 c8, .slice A9 N9 c9, .slice A10 N10 c10] 27)).alloc (.cells #[.int .i64 C.pages, .int .i64 C.pageSize, .int .i64 C.batch, .int .i64 6] 30) = wB at *
  refine (HNEW.out C HCO.out HQ6.out _ _ _ _ _ _ _ _ _ HMM.out).mono ?_
  rintro e w5 ⟨own, P, rfl, hrep, hlow, hb5⟩
  have hz5 := hb5.size
  have hK : LawK w0 w5 w.heap.size A n c l w4.heap.size wB.heap.size (.slice A4 N4 c4) (.slice A5 N5 c5) (.slice A6 N6 c6) (.slice A7 N7 c7) (.slice A8 N8 c8) (.slice A9 N9 c9) (.slice A10 N10 c10) own P (Srv.init demoM C) a3 :=
    ⟨hrep, ⟨0, HS0.out⟩, HKA.out.fresh hb5, HSA.out.fresh hb5, HK4.out.below hb5 (by omega), (HMM.out.more (T' := fun g => w0.heap.size ≤ g ∧ g < wB.heap.size) (fun g hg h => ⟨h, hg⟩)).fresh hb5, hlow, hp0, by omega, by omega, by omega, hz5⟩
  have hCr : CrK w0 w5 w.heap.size A n c l w4.heap.size (w4.heap.size + 1) wB.heap.size (.slice A4 N4 c4) (.slice A5 N5 c5) (.slice A6 N6 c6) (.slice A7 N7 c7) (.slice A8 N8 c8) (.slice A9 N9 c9) (.slice A10 N10 c10) C own P (Srv.init demoM C) a3 [] :=
    ⟨hK, HK5.out.below hb5 (by omega), by omega, by omega, HST.out C HCO.out⟩
  have m1 : w5.cell? ⟨w4.heap.size, 1, none⟩ = some (.int .i64 8) := hK.k4.cell 1
  generalize Srv.init demoM C = s0 at *
  have HCR := Lib.hid hCr
  clear hrep hlow hb5 hK hCr HNEW HK4 HK5 HMM HKA HSA KA HM4 HS4 HS0 HST
  go_wp2_with fail
  refine (range_any w5 w.heap.size A n c l a3 _ _ HCR.out.K.str (by omega) (by omega) (by omega) (by omega)).mono ?_
  rintro e w6 ⟨cnt, a4, rfl, ⟨t1, t2⟩, g4, g4', hs6, k6⟩
  have HC6 := Lib.hid (HCR.out.stream hs6 k6)
  obtain ⟨cn, hcn⟩ : ∃ cn : Nat, cnt = cn := Int.eq_ofNat_of_zero_le (by omega)
  subst hcn
  have hz6 := HC6.out.K.sz
  obtain ⟨vB, hvB⟩ : ∃ vB, vB = wB.heap.size := ⟨_, rfl⟩
  rw [← hvB] at HC6 hz6 hzz
  have ha4 : a4 ≤ 100 := by omega
  have hvb2 : w4.heap.size + 2 ≤ vB := by omega
  clear hs6 k6 HCR m1 hz5 hzz hvB g1 g1' g2 g2' g3 g3' g4 g4'
  go_wp2_with fail
  go_loopw [6, 47] (fun s6 x wr => ∃ (K : Nat) (own : Nat → Slot) (P : Ptrs) (s : Srv) (a' : Int) (hist : List Cal), K ≤ cn ∧ x = .int .i64 K ∧ s6 = .pointer (some ⟨P.sa, 0, none⟩) ∧ CrK w0 wr w.heap.size A n c l w4.heap.size (w4.heap.size + 1) vB (.slice A4 N4 c4) (.slice A5 N5 c5) (.slice A6 N6 c6) (.slice A7 N7 c7) (.slice A8 N8 c8) (.slice A9 N9 c9) (.slice A10 N10 c10) C own P s a' hist ∧ a' ≤ 100 + 1000 * K ∧ hist.length ≤ 15 * K) (fun _ x _ => cn - (intOf x).toNat)
  case atStart => exact ⟨0, own, P, s0, a4, [], by omega, rfl, rfl, HC6.out, by omega, by simp⟩
  clear HC6 ha4
  obtain ⟨K, own1, P1, s1, a5, hist, hK, rfl, rfl, hcr, ha5, hh⟩ := hrel
  have HCR := Lib.hid hcr
  have HHI := Lib.hid hh
  clear hcr hh
  obtain ⟨wo, rfl⟩ : ∃ wo : World, wo = wr := ⟨_, rfl⟩
  by_cases hlt : K < cn
  · obtain ⟨esa, hesa⟩ : ∃ esa, esa = P1.sa := ⟨_, rfl⟩
    have HES := Lib.hid hesa
    rw [← hesa]
    clear hesa
    go_wp2_with fail
    refine (range_any wo w.heap.size A n c l a5 _ _ HCR.out.K.str (by omega) (by omega) (by omega) (by omega)).mono ?_
    rintro e w7 ⟨cnt, a6, rfl, ⟨t3, t4⟩, g6, g6', hs7, k7⟩
    have HC7 := Lib.hid (HCR.out.stream hs7 k7)
    obtain ⟨cm, hcm⟩ : ∃ cm : Nat, cnt = cm := Int.eq_ofNat_of_zero_le (by omega)
    subst hcm
    clear hs7 k7 HCR
    go_wp2_with fail
    go_loopw [51] (fun x wr => ∃ (k : Nat) (own : Nat → Slot) (P : Ptrs) (s : Srv) (a' : Int) (hist : List Cal), k ≤ cm ∧ x = .int .i64 k ∧ P.sa = esa ∧ CrK w0 wr w.heap.size A n c l w4.heap.size (w4.heap.size + 1) vB (.slice A4 N4 c4) (.slice A5 N5 c5) (.slice A6 N6 c6) (.slice A7 N7 c7) (.slice A8 N8 c8) (.slice A9 N9 c9) (.slice A10 N10 c10) C own P s a' hist ∧ a' ≤ a6 + 62 * k ∧ hist.length ≤ 15 * K + k) (fun x _ => cm - (intOf x).toNat)
    case atStart => exact ⟨0, own1, P1, s1, a6, hist, by omega, rfl, HES.out.symm, HC7.out, by omega, HHI.out⟩
    clear HC7 HES HHI
    obtain ⟨k, own2, P2, s2, a7, hist2, hk, rfl, hes2, hcr, ha7, hh⟩ := hrel
    have HC7 := Lib.hid hcr
    have HHI := Lib.hid hh
    have HES := Lib.hid hes2
    clear hcr hh hes2
    by_cases hlt2 : k < cm
    · go_upto_block 3 with (fail)
      go_cut [] (fun wc => ∃ (own : Nat → Slot) (P : Ptrs) (s : Srv) (a' : Int) (hist : List Cal), P.sa = esa ∧ CrK w0 wc w.heap.size A n c l w4.heap.size (w4.heap.size + 1) vB (.slice A4 N4 c4) (.slice A5 N5 c5) (.slice A6 N6 c6) (.slice A7 N7 c7) (.slice A8 N8 c8) (.slice A9 N9 c9) (.slice A10 N10 c10) C own P s a' hist ∧ a' ≤ a6 + 62 * (k + 1) ∧ hist.length ≤ 15 * K + k + 1)
      case first =>
        go_wp2_with fail
        refine (next_any wr w.heap.size A n c l a7 6 HC7.out.K.str (by omega) (by omega)).mono ?_
        rintro e w8 ⟨v, a8, rfl, ⟨t5, t6, -⟩, g8, g8', hs8, k8⟩
        have HC8 := Lib.hid (HC7.out.stream hs8 k8)
        have t7 := t6 (by omega)
        clear hs8 k8 HC7 t6
        have hl5 : hist2.length ≤ 500 := by have := HHI.out; omega
        have HAT := Lib.hid (HC8.out.S.at_ hl5)
        have hv : (v = 0 ∨ v = 1) ∨ v = 2 ∨ v = 3 ∨ (v = 4 ∨ v = 5) := by omega
        rcases hv with hv | hv | hv | hv
        · have m0 : w8.cell? ⟨w4.heap.size, 0, none⟩ = some (.int .i64 1) := HC8.out.K.k4.cell 0
          have m1 : w8.cell? ⟨w4.heap.size, 1, none⟩ = some (.int .i64 8) := HC8.out.K.k4.cell 1
          have m2 : w8.cell? ⟨w4.heap.size, 2, none⟩ = some (.int .i64 4) := HC8.out.K.k4.cell 2
          have m3 : w8.cell? ⟨w4.heap.size, 3, none⟩ = some (.int .i64 8) := HC8.out.K.k4.cell 3
          have m4 : w8.cell? ⟨w4.heap.size, 4, none⟩ = some (.slice A4 N4 c4) := HC8.out.K.k4.cell 4
          have m5 : w8.cell? ⟨w4.heap.size, 5, none⟩ = some (.slice A5 N5 c5) := HC8.out.K.k4.cell 5
          have m6 : w8.cell? ⟨w4.heap.size, 6, none⟩ = some (.slice A6 N6 c6) := HC8.out.K.k4.cell 6
          have m7 : w8.cell? ⟨w4.heap.size, 7, none⟩ = some (.slice A7 N7 c7) := HC8.out.K.k4.cell 7
          have m8 : w8.cell? ⟨w4.heap.size, 8, none⟩ = some (.slice A8 N8 c8) := HC8.out.K.k4.cell 8
          have m9 : w8.cell? ⟨w4.heap.size, 9, none⟩ = some (.slice A9 N9 c9) := HC8.out.K.k4.cell 9
          have m10 : w8.cell? ⟨w4.heap.size, 10, none⟩ = some (.slice A10 N10 c10) := HC8.out.K.k4.cell 10
          have hnw := fun W (h : Rep W own2 P2 s2) => now_any W own2 P2 s2 h
          rw [HES.out] at hnw
          have HNW := Lib.hid hnw
          have zq : w4.heap.size < w8.heap.size := HC8.out.K.k4.lt
          have zp : w4.heap.size ≠ w.heap.size := by omega
          have hnow : (s2.now : Int) ≤ 600 := by have := HAT.out.inv.now; have := HAT.out.records; omega
          have ha8 : a8 ≤ 900000 := by omega
          have HSUB := Lib.hid (fun W h r vp hp hpl => submit_any W own2 P2 s2 h HAT.out.inv.ok (by have := HAT.out.records; omega) r (fun g => w8.heap.size ≤ g) vp hp hpl)
          rw [HES.out] at HSUB
          clear hnw
          rcases hv with rfl | rfl
          all_goals
            go_wp2_with fail
            go_region_held3 (fun w' => w'.cell? ⟨w4.heap.size, 0, none⟩ = some (.int .i64 1) ∧ w'.cell? ⟨w4.heap.size, 1, none⟩ = some (.int .i64 8) ∧ w'.cell? ⟨w4.heap.size, 2, none⟩ = some (.int .i64 4) ∧ w'.cell? ⟨w4.heap.size, 3, none⟩ = some (.int .i64 8) ∧ w'.cell? ⟨w4.heap.size, 4, none⟩ = some (.slice A4 N4 c4) ∧ w'.cell? ⟨w4.heap.size, 5, none⟩ = some (.slice A5 N5 c5) ∧ w'.cell? ⟨w4.heap.size, 6, none⟩ = some (.slice A6 N6 c6) ∧ w'.cell? ⟨w4.heap.size, 7, none⟩ = some (.slice A7 N7 c7) ∧ w'.cell? ⟨w4.heap.size, 8, none⟩ = some (.slice A8 N8 c8) ∧ w'.cell? ⟨w4.heap.size, 9, none⟩ = some (.slice A9 N9 c9) ∧ w'.cell? ⟨w4.heap.size, 10, none⟩ = some (.slice A10 N10 c10)) (first | with_reducible exact ⟨(bd _).trans ((bc _ _ zq zp).trans m0), (bd _).trans ((bc _ _ zq zp).trans m1), (bd _).trans ((bc _ _ zq zp).trans m2), (bd _).trans ((bc _ _ zq zp).trans m3), (bd _).trans ((bc _ _ zq zp).trans m4), (bd _).trans ((bc _ _ zq zp).trans m5), (bd _).trans ((bc _ _ zq zp).trans m6), (bd _).trans ((bc _ _ zq zp).trans m7), (bd _).trans ((bc _ _ zq zp).trans m8), (bd _).trans ((bc _ _ zq zp).trans m9), (bd _).trans ((bc _ _ zq zp).trans m10)⟩ | with_reducible exact ⟨(bc _ _ zq zp).trans m0, (bc _ _ zq zp).trans m1, (bc _ _ zq zp).trans m2, (bc _ _ zq zp).trans m3, (bc _ _ zq zp).trans m4, (bc _ _ zq zp).trans m5, (bc _ _ zq zp).trans m6, (bc _ _ zq zp).trans m7, (bc _ _ zq zp).trans m8, (bc _ _ zq zp).trans m9, (bc _ _ zq zp).trans m10⟩ | go_keep) ((first
              | (go_at_call 12; refine (HNW.out _ (by with_reducible exact HC8.out.K.rep.drew)).mono ?_; rintro e w' ⟨rfl, rfl⟩)
              | (go_at_call 11; refine (HASK.out _ w.heap.size A n c l a8 (by with_reducible exact HC8.out.K.str.drew) ha8 _ _ _ _ _ _ _ (s2.now : Int) ⟨by omega, by omega⟩).mono ?_; rintro e w9 ⟨r, vp, a9, rfl, ⟨r1, r2, r3, r4⟩, hsl, g9, g9', hs9, k9⟩; obtain ⟨Cp, cc, rfl⟩ := hsl.len; have bc : ∀ b o, b < w8.heap.size → b ≠ w.heap.size → w9.cell? ⟨b, o, none⟩ = w8.cell? ⟨b, o, none⟩ := (fun b o h1 h2 => by with_reducible exact (Keeps.ofDrew k9).cell (p := ⟨b, o, none⟩) h1 h2); have HC9 := Lib.hid (HC8.out.stream hs9 (Keeps.ofDrew k9)); have HSL := Lib.hid hsl; have HR1 := Lib.hid r1; clear hsl r1 r2 r3 hs9 k9)
              | (go_at_call 13; refine (HSUB.out _ HC9.out.K.rep r _ (HSL.out.more (fun g _ h => h)) (Nat.le_trans r4 (by decide))).mono ?_; rintro e w10 ⟨rfl, own10, P10, rep10, st10⟩; have hcl : CrK w0 w10 w.heap.size A n c l w4.heap.size (w4.heap.size + 1) vB (.slice A4 N4 c4) (.slice A5 N5 c5) (.slice A6 N6 c6) (.slice A7 N7 c7) (.slice A8 N8 c8) (.slice A9 N9 c9) (.slice A10 N10 c10) C own10 P10 (s2.submit r).1 a9 (addC s2 hist2 (.submit r)) := HC9.out.cal hl5 (.submit r) HR1.out rep10 st10; have hsa10 : P10.sa = esa := st10.sa.trans HES.out; have HCL := Lib.hid hcl; have HSA := Lib.hid hsa10; have bd : ∀ o, w10.cell? ⟨w4.heap.size, o, none⟩ = w9.cell? ⟨w4.heap.size, o, none⟩ := (fun o => (HCL.out.K.k4.cell o).trans (HC9.out.K.k4.cell o).symm); clear rep10 st10 hcl hsa10)))
            all_goals
              go_wp2_with fail
              go_meet
              exact ⟨own10, P10, _, a9, _, HSA.out, HCL.out, by omega, by have := HHI.out; have := addC_length s2 hist2 (.submit r); omega⟩
        · subst hv
          go_wp2_with fail
          refine (range_any w8 w.heap.size A n c l a8 _ _ HC8.out.K.str (by omega) (by omega) (by omega) (by omega)).mono ?_
          rintro e w9 ⟨id, a9, rfl, ⟨i1, i2⟩, g9, g9', hs9, k9⟩
          have HC9 := Lib.hid (HC8.out.stream hs9 k9)
          have hca := cancel_any w9 own2 P2 s2 HC9.out.K.rep HAT.out.inv.ok (by have := HAT.out.records; omega) id ⟨by omega, by omega⟩ s2.reqs.length (Nat.le_refl _)
          rw [HES.out] at hca
          have HCA := Lib.hid hca
          clear hca hs9 k9
          go_wp2_with fail
          refine HCA.out.mono ?_
          rintro e w10 ⟨rfl, own10, P10, rep10, st10⟩
          have hcl : CrK w0 w10 w.heap.size A n c l w4.heap.size (w4.heap.size + 1) vB (.slice A4 N4 c4) (.slice A5 N5 c5) (.slice A6 N6 c6) (.slice A7 N7 c7) (.slice A8 N8 c8) (.slice A9 N9 c9) (.slice A10 N10 c10) C own10 P10 (s2.cancel id).1 a9 (addC s2 hist2 (.cancel id)) := HC9.out.cal hl5 (.cancel id) ⟨by omega, by omega⟩ rep10 st10
          have hsa10 : P10.sa = esa := st10.sa.trans HES.out
          have HCL := Lib.hid hcl
          have HSA := Lib.hid hsa10
          clear rep10 st10 hcl hsa10 HCA
          go_wp2_with fail
          go_meet
          exact ⟨own10, P10, _, a9, _, HSA.out, HCL.out, by omega, by have := HHI.out; have := addC_length s2 hist2 (.cancel id); omega⟩
        · subst hv
          have hsy := sync_any w8 own2 P2 s2 HC8.out.K.rep s2.reqs.length
          rw [HES.out] at hsy
          have HSY := Lib.hid hsy
          clear hsy
          go_wp2_with fail
          refine HSY.out.mono ?_
          rintro e w9 ⟨rfl, rep9, st9⟩
          have HC9 := Lib.hid (HC8.out.step rep9 st9 HC8.out.S.sync)
          clear rep9 st9 HSY
          go_wp2_with fail
          go_meet
          exact ⟨own2, P2, _, a8, hist2, HES.out, HC9.out, by omega, by have := HHI.out; omega⟩
        · have htk := tick_any w8 own2 P2 s2 HC8.out.K.rep HAT.out.inv.ok HAT.out.inv.now (by have := HAT.out.records; omega) s2.reqs.length (Nat.le_refl _)
          rw [HES.out] at htk
          have HTK := Lib.hid htk
          clear htk
          rcases hv with rfl | rfl
          all_goals
            go_wp2_with fail
            refine HTK.out.mono ?_
            rintro e w9 ⟨rfl, own9, P9, rep9, st9⟩
            have HC9 := Lib.hid (HC8.out.cal hl5 .tick trivial rep9 st9)
            have hsa9 : P9.sa = esa := st9.sa.trans HES.out
            clear rep9 st9 HTK
            go_wp2_with fail
            go_meet
            exact ⟨own9, P9, _, a8, _, hsa9, HC9.out, by omega, by have := HHI.out; have := addC_length s2 hist2 .tick; omega⟩
      case rest =>
        obtain ⟨own9, P9, s9, a9, hist9, hes9, hcr9, ha9, hh9⟩ := hcut
        have HC9 := Lib.hid hcr9
        have HES9 := Lib.hid hes9
        have HHI9 := Lib.hid hh9
        clear hcr9 hes9 hh9 HC7 HES HHI
        go_wp2_with fail
        go_roundw
        case rel => exact ⟨k + 1, own9, P9, s9, a9, hist9, by omega, by go_num, HES9.out, HC9.out, by omega, by have := HHI9.out; omega⟩
        case measure => simp [intOf]; omega
    · obtain rfl : k = cm := by omega
      go_wp2_with fail
      have m0 : wr.cell? ⟨w4.heap.size, 0, none⟩ = some (.int .i64 1) := HC7.out.K.k4.cell 0
      have m1 : wr.cell? ⟨w4.heap.size, 1, none⟩ = some (.int .i64 8) := HC7.out.K.k4.cell 1
      have m2 : wr.cell? ⟨w4.heap.size, 2, none⟩ = some (.int .i64 4) := HC7.out.K.k4.cell 2
      have m3 : wr.cell? ⟨w4.heap.size, 3, none⟩ = some (.int .i64 8) := HC7.out.K.k4.cell 3
      have m4 : wr.cell? ⟨w4.heap.size, 4, none⟩ = some (.slice A4 N4 c4) := HC7.out.K.k4.cell 4
      have m5 : wr.cell? ⟨w4.heap.size, 5, none⟩ = some (.slice A5 N5 c5) := HC7.out.K.k4.cell 5
      have m6 : wr.cell? ⟨w4.heap.size, 6, none⟩ = some (.slice A6 N6 c6) := HC7.out.K.k4.cell 6
      have m7 : wr.cell? ⟨w4.heap.size, 7, none⟩ = some (.slice A7 N7 c7) := HC7.out.K.k4.cell 7
      have m8 : wr.cell? ⟨w4.heap.size, 8, none⟩ = some (.slice A8 N8 c8) := HC7.out.K.k4.cell 8
      have m9 : wr.cell? ⟨w4.heap.size, 9, none⟩ = some (.slice A9 N9 c9) := HC7.out.K.k4.cell 9
      have m10 : wr.cell? ⟨w4.heap.size, 10, none⟩ = some (.slice A10 N10 c10) := HC7.out.K.k4.cell 10
      have n0 : wr.cell? ⟨w4.heap.size + 1, 0, none⟩ = some (.int .i64 C.pages) := HC7.out.k5.cell 0
      have n1 : wr.cell? ⟨w4.heap.size + 1, 1, none⟩ = some (.int .i64 C.pageSize) := HC7.out.k5.cell 1
      have n2 : wr.cell? ⟨w4.heap.size + 1, 2, none⟩ = some (.int .i64 C.batch) := HC7.out.k5.cell 2
      have n3 : wr.cell? ⟨w4.heap.size + 1, 3, none⟩ = some (.int .i64 6) := HC7.out.k5.cell 3
      have hl5 : hist2.length ≤ 500 := by have := HHI.out; omega
      have hLL := HC7.out.S.log hl5
      have hlog := fun W (h : Rep W own2 P2 s2) => log_any W own2 P2 s2 h (by have := HC7.out.S.sy; omega) (by omega)
      have hsyn := fun W (h : Rep W own2 P2 s2) => synced_any W own2 P2 s2 h
      rw [HES.out] at hlog hsyn
      obtain ⟨sy1, sy2⟩ := HC7.out.S.sy
      have HANS := Lib.hid (fun j hj x hx hnext id hok => answer_told HC7.out.S.H (CrS.ini HC7.out.S.C) (by omega) HC7.out.S.rp j hj x hx hnext id hok)
      have HBACK := Lib.hid (HC7.out.S.back hl5)
      obtain ⟨L, hL⟩ : ∃ L, L = s2.log.length := ⟨_, rfl⟩
      rw [← hL] at hlog sy2 hLL
      generalize hyy : s2.synced = y at *
      have HY := Lib.hid hyy
      have HL := Lib.hid hL
      have HLOG := Lib.hid hlog
      have HSYN := Lib.hid hsyn
      have HRE2 := Lib.hid (HRES.out C HC7.out.S.C HQ6.out)
      clear hlog hsyn hL hyy
      have zwr : w.heap.size < wr.heap.size := by have := HC7.out.K.sz; omega
      go_cut [8, 9] (fun x8 x9 wc => ∃ (own' : Nat → Slot) (P' : Ptrs) (a' : Int) (s' : Srv) (hist' : List Cal), x8 = .pointer (some ⟨P'.sa, 0, none⟩) ∧ x9 = .int .i64 0 ∧ CrK w0 wc w.heap.size A n c l w4.heap.size (w4.heap.size + 1) vB (.slice A4 N4 c4) (.slice A5 N5 c5) (.slice A6 N6 c6) (.slice A7 N7 c7) (.slice A8 N8 c8) (.slice A9 N9 c9) (.slice A10 N10 c10) C own2 P2 s2 a' hist2 ∧ CrK w0 wc w.heap.size A n c l w4.heap.size (w4.heap.size + 1) vB (.slice A4 N4 c4) (.slice A5 N5 c5) (.slice A6 N6 c6) (.slice A7 N7 c7) (.slice A8 N8 c8) (.slice A9 N9 c9) (.slice A10 N10 c10) C own' P' s' a' hist' ∧ hist'.length ≤ hist2.length ∧ a' ≤ a7 + 1 ∧ (∀ id, (s2.answer id).2.2 = true → s'.answer id = s2.answer id))
      case first =>
        go_region_held3 (fun w' => w'.cell? ⟨w4.heap.size, 0, none⟩ = some (.int .i64 1) ∧ w'.cell? ⟨w4.heap.size, 1, none⟩ = some (.int .i64 8) ∧ w'.cell? ⟨w4.heap.size, 2, none⟩ = some (.int .i64 4) ∧ w'.cell? ⟨w4.heap.size, 3, none⟩ = some (.int .i64 8) ∧ w'.cell? ⟨w4.heap.size, 4, none⟩ = some (.slice A4 N4 c4) ∧ w'.cell? ⟨w4.heap.size, 5, none⟩ = some (.slice A5 N5 c5) ∧ w'.cell? ⟨w4.heap.size, 6, none⟩ = some (.slice A6 N6 c6) ∧ w'.cell? ⟨w4.heap.size, 7, none⟩ = some (.slice A7 N7 c7) ∧ w'.cell? ⟨w4.heap.size, 8, none⟩ = some (.slice A8 N8 c8) ∧ w'.cell? ⟨w4.heap.size, 9, none⟩ = some (.slice A9 N9 c9) ∧ w'.cell? ⟨w4.heap.size, 10, none⟩ = some (.slice A10 N10 c10) ∧ w'.cell? ⟨w4.heap.size + 1, 0, none⟩ = some (.int .i64 C.pages) ∧ w'.cell? ⟨w4.heap.size + 1, 1, none⟩ = some (.int .i64 C.pageSize) ∧ w'.cell? ⟨w4.heap.size + 1, 2, none⟩ = some (.int .i64 C.batch) ∧ w'.cell? ⟨w4.heap.size + 1, 3, none⟩ = some (.int .i64 6)) (first | exact ⟨HC12.out.K.k4.cell 0, HC12.out.K.k4.cell 1, HC12.out.K.k4.cell 2, HC12.out.K.k4.cell 3, HC12.out.K.k4.cell 4, HC12.out.K.k4.cell 5, HC12.out.K.k4.cell 6, HC12.out.K.k4.cell 7, HC12.out.K.k4.cell 8, HC12.out.K.k4.cell 9, HC12.out.K.k4.cell 10, HC12.out.k5.cell 0, HC12.out.k5.cell 1, HC12.out.k5.cell 2, HC12.out.k5.cell 3⟩ | exact ⟨HC11.out.K.k4.cell 0, HC11.out.K.k4.cell 1, HC11.out.K.k4.cell 2, HC11.out.K.k4.cell 3, HC11.out.K.k4.cell 4, HC11.out.K.k4.cell 5, HC11.out.K.k4.cell 6, HC11.out.K.k4.cell 7, HC11.out.K.k4.cell 8, HC11.out.K.k4.cell 9, HC11.out.K.k4.cell 10, HC11.out.k5.cell 0, HC11.out.k5.cell 1, HC11.out.k5.cell 2, HC11.out.k5.cell 3⟩ | exact ⟨HC10.out.K.k4.cell 0, HC10.out.K.k4.cell 1, HC10.out.K.k4.cell 2, HC10.out.K.k4.cell 3, HC10.out.K.k4.cell 4, HC10.out.K.k4.cell 5, HC10.out.K.k4.cell 6, HC10.out.K.k4.cell 7, HC10.out.K.k4.cell 8, HC10.out.K.k4.cell 9, HC10.out.K.k4.cell 10, HC10.out.k5.cell 0, HC10.out.k5.cell 1, HC10.out.k5.cell 2, HC10.out.k5.cell 3⟩ | exact ⟨HC9.out.K.k4.cell 0, HC9.out.K.k4.cell 1, HC9.out.K.k4.cell 2, HC9.out.K.k4.cell 3, HC9.out.K.k4.cell 4, HC9.out.K.k4.cell 5, HC9.out.K.k4.cell 6, HC9.out.K.k4.cell 7, HC9.out.K.k4.cell 8, HC9.out.K.k4.cell 9, HC9.out.K.k4.cell 10, HC9.out.k5.cell 0, HC9.out.k5.cell 1, HC9.out.k5.cell 2, HC9.out.k5.cell 3⟩ | go_keep) ((first
          | (go_at_call 23; refine (HLOG.out _ (by with_reducible exact HC7.out.K.rep.drew)).mono ?_; rintro e w9 ⟨v1, rfl, hf9, hb9⟩; obtain ⟨A1, c1, rfl, hc1, hc1'⟩ := hf9.shape; have HC9 := Lib.hid (HC7.out.fresh hb9.drewed); have HF9 := Lib.hid hf9; clear hf9 hb9)
          | (go_at_call 24; refine (HSYN.out _ (by with_reducible exact HC9.out.K.rep)).mono ?_; rintro e w' ⟨rfl, rfl⟩)
          | (go_at_call 23; refine (HLOG.out _ (by with_reducible exact HC9.out.K.rep)).mono ?_; rintro e w10 ⟨v2, rfl, hf10, hb10⟩; obtain ⟨A2, c2, rfl, -, -⟩ := hf10.shape; have HC10 := Lib.hid (HC9.out.fresh hb10); have HF10 := Lib.hid (HF9.out.fresh hb10); clear hf10 hb10)
          | (go_at_call 22; refine (HRE2.out _ _ _ _ _ _ _ _ _ _ HC11.out.K.ms s2 hist2 HC11.out.S.H hl5 _ _ _ (by omega) (by rw [← HL.out]; omega) (by omega) (by have := HF11.out.reads.take (k := xn) (by omega); rwa [Nat.mul_one, ← bytes_take] at this) (by omega) hc1').mono ?_; rintro e w12 ⟨own12, P12, j, j1, j2, rfl, rep12, low12, hb12⟩; have HC12 := Lib.hid (HC11.out.fresh hb12); have HN12 := Lib.hid (HC11.out.next hb12 rep12 low12 (HBACK.out j j1)); have HA12 := Lib.hid (HANS.out j j1 xn (by omega) j2); clear rep12 low12 hb12)
          | (go_at_call 9; refine (range_any _ w.heap.size A n c l a7 _ _ HC10.out.K.str (by omega) (by omega) (by omega) (by omega)).mono ?_; rintro e w11 ⟨xv, a8, rfl, ⟨x1, x2⟩, g11, g11', hs11, k11⟩; have HC11 := Lib.hid (HC10.out.stream hs11 k11); have HF11 := Lib.hid (HF10.out.keeps k11 (fun i hi e => absurd zwr (by have hi' : wr.heap.size ≤ i := hi; omega))); obtain ⟨xn, hxn⟩ : ∃ xn : Nat, xv = xn := Int.eq_ofNat_of_zero_le (by omega); subst hxn; have x3 : (0 : Int) ≤ (xn : Int) := Int.natCast_nonneg xn; have x4 : (xn : Int) ≤ (c1 : Int) := Int.le_trans x2 (Int.ofNat_le.2 hc1); clear hs11 k11)))
        all_goals
          go_wp2_with fail
          go_meet
          exact ⟨own12, P12, a8, _, _, rfl, rfl, HC12.out, HN12.out, by rw [List.length_take]; omega, by omega, HA12.out⟩
      case rest =>
        obtain ⟨own3, P3, a8, s3, hist3, rfl, rfl, hold, hnew, hh3, ha8, hans⟩ := hcut
        have HOLD := Lib.hid hold
        have HNEX := Lib.hid hnew
        have HA := Lib.hid hans
        have HH3 := Lib.hid hh3
        have OKO := Lib.hid (HC7.out.S.at_ hl5).inv.ok
        have OKN := Lib.hid (hnew.S.at_ (by omega)).inv.ok
        obtain ⟨esb, hesb⟩ : ∃ esb, esb = P3.sa := ⟨_, rfl⟩
        have HESB := Lib.hid hesb
        rw [← hesb]
        clear hold hnew hans hh3 hesb HANS HBACK HLOG HSYN HRE2 HY HL HC7 HRES HASK m0 m1 m2 m3 m4 m5 m6 m7 m8 m9 m10 n0 n1 n2 n3 sy1 sy2 hLL
        go_wp2_with fail
        obtain ⟨wo2, rfl⟩ : ∃ wo2 : World, wo2 = wc := ⟨_, rfl⟩
        go_loopw [100] (fun x wr => ∃ (id : Nat), id ≤ 9 ∧ x = .int .i64 id ∧ CrK w0 wr w.heap.size A n c l w4.heap.size (w4.heap.size + 1) vB (.slice A4 N4 c4) (.slice A5 N5 c5) (.slice A6 N6 c6) (.slice A7 N7 c7) (.slice A8 N8 c8) (.slice A9 N9 c9) (.slice A10 N10 c10) C own2 P2 s2 a8 hist2 ∧ CrK w0 wr w.heap.size A n c l w4.heap.size (w4.heap.size + 1) vB (.slice A4 N4 c4) (.slice A5 N5 c5) (.slice A6 N6 c6) (.slice A7 N7 c7) (.slice A8 N8 c8) (.slice A9 N9 c9) (.slice A10 N10 c10) C own3 P3 s3 a8 hist3) (fun x _ => 9 - (intOf x).toNat)
        case atStart => exact ⟨0, by omega, rfl, HOLD.out, HNEX.out⟩
        clear HOLD HNEX
        obtain ⟨id, hid, rfl, hold, hnew⟩ := hrel
        have HOLD := Lib.hid hold
        have HNEX := Lib.hid hnew
        clear hold hnew
        by_cases hlt3 : id < 9
        · have han := answer_any wr own2 P2 s2 HOLD.out.K.rep OKO.out id ⟨by omega, by omega⟩
          rw [HES.out] at han
          have HAN := Lib.hid han
          clear han
          go_wp2_with fail
          refine HAN.out.mono ?_
          rintro e w13 ⟨v1, rfl, hf13, hb13⟩
          obtain ⟨B1, d1, rfl, -, -⟩ := hf13.shape
          have HO13 := Lib.hid (HOLD.out.fresh hb13)
          have HN13 := Lib.hid (HNEX.out.fresh hb13)
          have HF13 := Lib.hid hf13
          clear hf13 hb13 HAN HOLD HNEX
          have han := answer_any w13 own3 P3 s3 HN13.out.K.rep OKN.out id ⟨by omega, by omega⟩
          rw [HESB.out.symm] at han
          have HAN := Lib.hid han
          clear han
          go_wp2_with fail
          refine HAN.out.mono ?_
          rintro e w14 ⟨v2, rfl, hf14, hb14⟩
          obtain ⟨B2, d2, rfl, -, -⟩ := hf14.shape
          have HO14 := Lib.hid (HO13.out.fresh hb14)
          have HN14 := Lib.hid (HN13.out.fresh hb14)
          have HF14 := Lib.hid hf14
          have HF13' := Lib.hid (HF13.out.fresh hb14)
          clear hf14 hb14 HAN HO13 HN13 HF13
          cases hok : (s2.answer id).2.2 with
          | false =>
            have HOK := Lib.hid hok
            clear hok
            go_wp2_with fail
            go_roundw
            case rel => exact ⟨id + 1, by omega, by go_num, HO14.out, HN14.out⟩
            case measure => simp [intOf]; omega
          | true =>
            have he := HA.out id hok
            rw [he] at HF14 ⊢
            have hlen1 := answer_len OKO.out (id : Int)
            have heq := equal_any w14 _ _ B1 B2 _ _ d1 d2 (s2.answer id).1 (s2.answer id).1 HF13'.out.reads HF14.out.reads hlen1
            simp only [decide_true] at heq
            have HEQ := Lib.hid heq
            rw [hok]
            have HOK := Lib.hid hok
            clear hok he heq
            generalize s2.answer id = r2 at *
            go_wp2_with fail
            refine HEQ.out.mono ?_
            rintro e w15 ⟨rfl, kk, rfl⟩
            go_wp2_with fail
            go_roundw
            case rel => exact ⟨id + 1, by omega, by go_num, HO14.out.drewN kk, HN14.out.drewN kk⟩
            case measure => simp [intOf]; omega
        · obtain rfl : id = 9 := by omega
          go_wp2_with fail
          go_roundw
          case rel => exact ⟨K + 1, own3, P3, s3, a8, hist3, by omega, by go_num, by rw [HESB.out], HNEX.out, by omega, by have := HH3.out; have := HHI.out; omega⟩
          case measure => simp [intOf]; omega
  · obtain rfl : K = cn := by omega
    go_wp2_with fail
    refine (served_any wo).mono ?_
    rintro e w7 ⟨rfl, hb7⟩
    have KF := Lib.hid (HW0.out _ (HCR.out.K.kp.fresh hb7))
    clear hb7
    go_wp2_with fail
    go_ret
    exact ⟨rfl, KF.out⟩
end Go.Proofs.YtedkfehdfmimoaaGreat

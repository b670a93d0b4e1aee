/- record. attend. -/
import Derived.Test.YtedkfehdfmimoaaGreatKc12
import Derived.Deep.RegionLaw
import Derived.Test.YtedkfehdfmimoaaGreatKc11
namespace Go.Proofs.YtedkfehdfmimoaaGreat
open Go.RowKit

def recF (records : Nat) (l : List Int) : List Int :=
  match l with
  | [] => []
  | k :: l => sealF (lowF ((1 + 4 * l.length : Nat) : Int) 2 ++ lowF records 4 ++ bodyF k l)
def Srv.rec_ (s : Srv) (l : List Int) : Srv := { s with log := s.log ++ recF s.records l, records := s.records + 1 }

set_option maxRecDepth 100000 in
set_option maxHeartbeats 4000000 in
theorem record_any (w : World) (own : Nat → Slot) (P : Ptrs) (s : Srv) (h : Rep w own P s) (T : Nat → Prop) (v : Value) (kind : Int) (l : List Int) (hl : Slc w T v (kind :: l)) (hk : 0 ≤ kind ∧ kind ≤ 255)
    (hw : inRange (-9223372036854775808) 9223372036854775807 l) (hn : l.length ≤ 100) (hr : s.records ≤ 1000000) (hlog : s.log.length ≤ 10000000) (m : Nat) :
    Calls Tryz.prog 33 #[.pointer (some ⟨P.sa, 0, none⟩), v] w fun e w' => e = .returned (.tuple #[]) ∧ ∃ own' P', Rep w' own' P' (s.rec_ (kind :: l)) ∧ Step w own P w' own' P' m := by
  obtain ⟨A, c, rfl⟩ := hl.len
  obtain ⟨i0, hi, hz0, hz1, hz2⟩ := info_parts u8_info
  obtain ⟨-, ad, rfl, -⟩ := hl.at_ 0 (by simp)
  rw [List.length_cons] at hl ⊢
  go_enter Tryz.func33, Tryz.ntmps33
  go_wp2_with fail
  refine record_r0 w P.sa T ad c kind l hl hk hw hn _ _ _ _ _ _ _ _ _ _ _ _ _ _ _ _ _ _ _ _ _ _ _ _ _ _ _ _ _ _ _ _ _ _ _ _ _ _  _ ?_
  intro vb w1 _ _ _ _ _ _  hob hb1
  have h1 := h.fresh hb1
  obtain ⟨Ab, cb, rfl, -, -⟩ := hob.shape
  go_wp2_with fail
  refine record_r1 w1 P.sa _ Ab _ cb _ hob.reads (by omega) s.records hr _ h1.server rfl _ _ _ _ _ _ _ _ _ _ _ _ _ _ _ _ _ _ _ _ _ _ _ _ _ _ _ _ _ _ _ _ _ _ _ _ _ _  _ ?_
  intro vo w2 _ _ _ _ _ _ _ _ _ _ _  hoo hb2
  have h2 := h1.fresh hb2
  go_wp2_with fail
  have hv := h2.log.shape
  obtain ⟨Al, cl, hvl, hcl1, hcl2⟩ := hv
  have hlo : (lowF ((1 + 4 * l.length : Nat) : Int) 2 ++ lowF s.records 4 ++ bodyF kind l).length = 2 + 4 + (1 + 4 * l.length) := by simp only [List.length_append, lowF_length, bodyF_length]
  have hbo : isBytes (lowF ((1 + 4 * l.length : Nat) : Int) 2 ++ lowF s.records 4 ++ bodyF kind l) := isBytes_append (isBytes_append (lowF_bytes _ _) (lowF_bytes _ _)) (bodyF_bytes _ _)
  have HLO := Lib.hid hlo
  have HBO := Lib.hid hbo
  have hown := (h1.log.more (T' := fun g => own g = .log ∧ g < w1.heap.size) fun g hg e => ⟨e, hg⟩).fresh hb2
  rw [hvl] at hown
  have hc := (h2.server.cell 19).trans (show (serverCells P s)[19]? = some (.slice Al s.log.length cl) from by rw [← hvl]; rfl)
  have hf := h2.server.frozen 19
  have hq : P.sa < w1.heap.size := h1.server.lt
  have hq2 : P.sa < w2.heap.size := h2.server.lt
  have hz12 := hb2.size
  have HVL := Lib.hid hvl
  have hneq : some P.sa ≠ (Value.slice Al s.log.length cl).ownBlock := fun e => by have := (hown.2 _ e.symm).1; rw [h.oserver] at this; cases this
  clear hvl hlo hbo hcl1 hcl2
  generalize hout : (lowF ((1 + 4 * l.length : Nat) : Int) 2 ++ lowF s.records 4 ++ bodyF kind l) = out at *
  have HOUT := Lib.hid hout
  clear hout
  generalize hno : 2 + 4 + (1 + 4 * l.length) = no at *
  have hno2 : no ≤ 1000 := by omega
  go_region_law ((first
    | (refine step_append_any _ (by rfl) _ _ 56 (by rfl) 5 i0 _ 1 1 Tryz.underlying56 hi hz0 hz1 hz2 rfl (by omega) (.slice Al s.log.length cl) s.log.length (bytes s.log) (by rfl) (hown.drew.keep fun g _ ht => hb3.block g ht.2) _ (no + 4) cu _ (by rfl) hu.reads (bytes_one _) (by unfold maxLen; omega) (by omega) ?_; intro v' w4 happ; obtain ⟨A4, c4, rfl, -, -⟩ := happ.1.shape; have k4 := (h2.server.drew.below hb3 hq).grown happ.2.1 hneq; have hc4 : w4.cell? ⟨P.sa, 19, none⟩ = some P.vlog := k4.cell 19; have hf4 := k4.frozen 19)
    | (go_simp; go_at_call 58; (refine (sealed_any w2.drew w1.heap.size hz12 vo out no hoo.drew HLO.out (by omega) HBO.out).mono ?_; rintro e w3 ⟨u, rfl, hu, hb3⟩; obtain ⟨Au, cu, rfl, -, -⟩ := hu.shape; have hc1 := hb3.cell (p := ⟨P.sa, 19, none⟩) hq; try dsimp only))))
  all_goals (
    have h3 : Rep w3 own P s := h1.fresh (hb2.trans (hb3.drewed))
    have hT : ∀ g, g < w4.heap.size → ((own g = .log ∧ g < w1.heap.size) ∨ g = w3.heap.size) → (own g = .log ∨ g = w3.heap.size) := fun g _ e => e.elim (fun e => Or.inl e.1) Or.inr
    have happ' : Appended w3 w4 (fun g => own g = .log) 5 1 P.vlog (.slice A4 (s.log.length + (no + 4)) c4) (s.log.length + (no + 4)) (bytes (s.log ++ sealF out)) := by
      rw [HVL.out, bytes_append]
      exact ⟨happ.1.more hT, happ.2⟩
    obtain ⟨h4, st⟩ := h3.newLog happ' (by rw [List.length_append, sealF_length, HLO.out]) m
    have c20 : (w4.setCell ⟨P.sa, 19, none⟩ (.slice A4 (s.log.length + (no + 4)) c4)).cell? ⟨P.sa, 20, none⟩ = some (.int .i64 s.records) := h4.server.cell 20
    have f20 := h4.server.frozen 20
    have r20 : IntKind.i64.wrap ((s.records : Int) + 1) = (s.records : Int) + 1 := IntWalk.i64_in _ ⟨by omega, by omega⟩
    have H4 := Lib.hid h4
    have ST := Lib.hid st
    clear h4 st happ' hT
    go_wp2_with fail
    go_end0
    have b3 : Below w.heap.size w w3 := (hb1.trans (hb2.mono hb1.size)).trans (hb3.drewed.mono hb1.size)
    have s3 : Step w own P w3 own P m := ⟨Keeps.of_below b3 _, fun _ _ => rfl, rfl, fun _ _ => rfl, rfl, rfl⟩
    have h5 := H4.out.setServer 20 (.int .i64 ((s.records : Int) + 1)) (s.rec_ (kind :: l)) rfl rfl rfl (by show s.log ++ sealF _ = s.log ++ sealF out; rw [HOUT.out]) rfl
    refine ⟨rfl, _, _, h5, (s3.trans ST.out (Nat.le_refl _)).trans (m := m) ⟨Keeps.setCell (Keeps.refl _ _) (p := ⟨P.sa, 20, none⟩) (fun _ => by show _ ≠ _; rw [H4.out.oserver]; intro e; cases e) _, fun _ _ => rfl, rfl, fun _ _ => rfl, rfl, rfl⟩ (Nat.le_refl _)⟩)
end Go.Proofs.YtedkfehdfmimoaaGreat

namespace Go.Proofs.YtedkfehdfmimoaaGreat
open Go.RowKit

/-- what attention makes of entries -/
def Model.last (m : Model) (es : List (List Int)) : List Int := (es.getD (es.length - 1) []).drop (2 * m.width)
def Model.att (m : Model) (es : List (List Int)) (e : List Int) : Int := shiftF (dotF (e.take m.width) (m.last es)) (m.cut 1)
def Model.atts (m : Model) (es : List (List Int)) : List Int := es.map (m.att es)
def Model.softOf (m : Model) (most s : Int) : Int := m.soft.getD (min (max (wr (most - s)) 0).toNat (m.soft.length - 1)) 0
def Model.mixIn (m : Model) (most : Int) (h : List Int) (p : List Int × Int) : List Int := List.zipWith (fun a v => wr (a + wr (m.softOf most p.2 * v))) h ((p.1.drop m.width).take m.width)
def Model.attH (m : Model) (es : List (List Int)) : List Int := ((List.zip es (m.atts es))).foldl (m.mixIn (maxF (m.atts es))) (List.replicate m.width 0)
def Model.attend (m : Model) (es : List (List Int)) : List Int := (m.attH es).map fun x => shiftF x (m.cut 2)

theorem shiftF_word (n c : Int) (h1 : 1 ≤ c) (h2 : c ≤ 15) (hn : word n) : word (shiftF n c) := by
  obtain ⟨a, b⟩ := hn
  have : c = 1 ∨ c = 2 ∨ c = 3 ∨ c = 4 ∨ c = 5 ∨ c = 6 ∨ c = 7 ∨ c = 8 ∨ c = 9 ∨ c = 10 ∨ c = 11 ∨ c = 12 ∨ c = 13 ∨ c = 14 ∨ c = 15 := by omega
  unfold word shiftF
  rcases this with rfl | rfl | rfl | rfl | rfl | rfl | rfl | rfl | rfl | rfl | rfl | rfl | rfl | rfl | rfl <;> simp <;> omega

def Model.mixTo (m : Model) (es : List (List Int)) (k : Nat) : List Int := ((List.zip es (m.atts es)).take k).foldl (m.mixIn (maxF (m.atts es))) (List.replicate m.width 0)
theorem Model.mixTo_step (m : Model) (es : List (List Int)) (k : Nat) (h : k < es.length) : m.mixTo es (k + 1) = m.mixIn (maxF (m.atts es)) (m.mixTo es k) (es[k], (m.atts es)[k]'(by simpa [Model.atts] using h)) := by
  have hz : k < (List.zip es (m.atts es)).length := by simp [Model.atts, h]
  unfold Model.mixTo
  rw [List.take_succ_eq_append_getElem hz, List.foldl_append]
  simp [List.getElem_zip]
theorem Model.mixTo_length (m : Model) (es : List (List Int)) (h : ∀ e ∈ es, e.length = 3 * m.width) (k : Nat) : (m.mixTo es k).length = m.width := by
  unfold Model.mixTo
  have key : ∀ (l : List (List Int × Int)) (o : List Int), o.length = m.width → (∀ p ∈ l, p.1.length = 3 * m.width) → (l.foldl (m.mixIn (maxF (m.atts es))) o).length = m.width := by
    intro l
    induction l with
    | nil => exact fun _ h _ => h
    | cons x l ih =>
      intro o ho hl
      rw [List.foldl_cons]
      refine ih _ ?_ fun p hp => hl p (by simp [hp])
      have := hl x (by simp)
      simp [Model.mixIn, ho, this]
      omega
  refine key _ _ (by simp) fun p hp => ?_
  have := List.mem_of_mem_take hp
  exact h _ (List.of_mem_zip this).1
/-- element by element -/
theorem zip_step (f : Int → Int → Int) (x y : List Int) (k : Nat) (hx : k < x.length) (hy : k < y.length) :
    (List.zipWith f (x.take k) (y.take k) ++ x.drop k).set k (f x[k] y[k]) = List.zipWith f (x.take (k + 1)) (y.take (k + 1)) ++ x.drop (k + 1) := by
  have hl : (List.zipWith f (x.take k) (y.take k)).length = k := by simp; omega
  rw [List.set_append_right _ _ (by omega), hl, Nat.sub_self, List.drop_eq_getElem_cons hx, List.set_cons_zero, List.take_succ_eq_append_getElem hx, List.take_succ_eq_append_getElem hy]
  rw [List.zipWith_append (by simp; omega)]
  simp
theorem zip_get (f : Int → Int → Int) (x y : List Int) (k : Nat) (hx : k < x.length) (hy : k < y.length) : (ints (List.zipWith f (x.take k) (y.take k) ++ x.drop k))[k]? = some (.int .i64 x[k]) := by
  have hl : (List.zipWith f (x.take k) (y.take k)).length = k := by simp; omega
  simp only [ints, List.map_append]
  rw [List.getElem?_append_right (by rw [List.length_map, hl]; exact Nat.le_refl _), List.length_map, hl, Nat.sub_self]
  simp [hx]

def goodEntries (m : Model) (es : List (List Int)) : Prop := ∀ e ∈ es, e.length = m.len ∧ inRange (-2147483648) 2147483647 e

noncomputable def attendR14 : Code := (Tryz.f99.body.bind (findRegion 14)).getD .skip

set_option maxRecDepth 100000 in
set_option maxHeartbeats 2000000 in

/-- The weight of an entry. -/
theorem attend_r14 (wr : World) (T : Nat → Prop) (M : Model) (hM : M.Ok) (v9 : Value) (hso : Slc wr T v9 M.soft) (B : Nat) (hbx : wr.cell? ⟨B, 9, none⟩ = some v9) (as7 : Addr) (n7 c7 k : Nat) (y mx : Int) (hk : k < n7) (csk : wr.cell? (as7.add k) = some (.int .i64 y))
    (hmx : word mx) (hy : word y) (s0 s1 s3 s4 s5 s6 s8 s9 s11 s13 s14 s15 s16 s17 s18 s19 s20 s21 s22 s23 s24 s25 s26 s27 s28 s29 s30 s31 s32 s33 s34 s35 s36 s37 s38 s39 s40 s41 s42 s43 s44 s45 s46 s47 s48 s49 s50 s51 s52 s53 s54 s55 s56 s57 s58 s59 s60 s61 s62 s63 s64 s65 s66 s67 s68 s69 s70 s71 s72 s73 s74 s75 s76 s77 s78 s79 s80 s81 s82 s83 s84 s85 s86 s87 s88 s89 s90 s91 s92 s93 s94 s95 s96 s97 s98 s99 s100 s101 s102 s103 s104 s105 s106 s107 s108 s109 s110 s111 s112 s113 s114 s115 s116 s117 s118 s119 s120 s121 : Value) (Q : Exit → Act → World → Prop)
    (hQ : ∀ (nd : Nat) (y60 y61 y62 y63 y64 y65 y66 y67 y68 y69 y70 y71 y72 y73 y74 y75 y76 : Value), Q .normal ⟨#[s0, s1, .pointer (some ⟨B, 0, none⟩), s3, s4, s5, s6, .slice (some as7) n7 c7, s8, s9, .int .i64 mx, s11, .int .i64 k, s13, .int .i64 (M.softOf mx y), s15, s16, s17, s18, s19, s20, s21, s22, s23, s24, s25, s26, s27, s28, s29, s30, s31, s32, s33, s34, s35, s36, s37, s38, s39, s40, s41, s42, s43, s44, s45, s46, s47, s48, s49, s50, s51, s52, s53, s54, s55, s56, s57, s58, s59, y60, y61, y62, y63, y64, y65, y66, y67, y68, y69, y70, y71, y72, y73, y74, y75, y76, s77, s78, s79, s80, s81, s82, s83, s84, s85, s86, s87, s88, s89, s90, s91, s92, s93, s94, s95, s96, s97, s98, s99, s100, s101, s102, s103, s104, s105, s106, s107, s108, s109, s110, s111, s112, s113, s114, s115, s116, s117, s118, s119, s120, s121], []⟩ (wr.drewN nd)) :
    Code.wp Tryz.prog attendR14 Q ⟨#[s0, s1, .pointer (some ⟨B, 0, none⟩), s3, s4, s5, s6, .slice (some as7) n7 c7, s8, s9, .int .i64 mx, s11, .int .i64 k, s13, s14, s15, s16, s17, s18, s19, s20, s21, s22, s23, s24, s25, s26, s27, s28, s29, s30, s31, s32, s33, s34, s35, s36, s37, s38, s39, s40, s41, s42, s43, s44, s45, s46, s47, s48, s49, s50, s51, s52, s53, s54, s55, s56, s57, s58, s59, s60, s61, s62, s63, s64, s65, s66, s67, s68, s69, s70, s71, s72, s73, s74, s75, s76, s77, s78, s79, s80, s81, s82, s83, s84, s85, s86, s87, s88, s89, s90, s91, s92, s93, s94, s95, s96, s97, s98, s99, s100, s101, s102, s103, s104, s105, s106, s107, s108, s109, s110, s111, s112, s113, s114, s115, s116, s117, s118, s119, s120, s121], []⟩ wr := by
  conv => arg 2; whnf
  obtain ⟨s1, s2⟩ := hM.lsoft
  obtain ⟨on, hon⟩ : ∃ on : Nat, M.soft.length = on + 1 := ⟨M.soft.length - 1, by omega⟩
  have HON := Lib.hid hon
  have o1 : on < M.soft.length := by omega
  have o2 : (M.soft.length : Int) - 1 = on := by omega
  have o3 : IntKind.i64.wrap (on : Int) = on := IntWalk.i64_in _ ⟨by omega, by omega⟩
  clear hon
  obtain ⟨A9, c9, rfl⟩ := hso.len
  obtain ⟨-, ad9, rfl, cs0⟩ := hso.at_ 0 (by omega)
  obtain ⟨m1, m2⟩ := hmx
  obtain ⟨y1, y2⟩ := hy
  have i3 : IntKind.i64.wrap (mx - y) = mx - y := IntWalk.i64_in _ ⟨by omega, by omega⟩
  have hwt2 : wr.cell? (ad9.add (min (max (Go.Proofs.YtedkfehdfmimoaaGreat.wr (mx - y)) 0).toNat on)) = some (.int .i64 (M.softOf mx y)) := by
    have hlt : min (max (Go.Proofs.YtedkfehdfmimoaaGreat.wr (mx - y)) 0).toNat on < M.soft.length := by omega
    obtain ⟨-, ad, e, c⟩ := hso.at_ _ hlt
    injection e with e
    subst e
    rw [c]
    unfold Model.softOf
    rw [show M.soft.length - 1 = on from by have := HON.out; omega]
    simp [List.getD, hlt]
  generalize M.softOf mx y = wt at *
  have hwr := fun W => wrap_any (mx - y) W
  generalize Go.Proofs.YtedkfehdfmimoaaGreat.wr (mx - y) = z0 at *
  have HWR := Lib.hid hwr
  clear hwr
  have i4 : (0 : Int) ≤ k := by omega
  have i5 : (k : Int) < n7 := by omega
  have i6 : (0 : Int) ≤ on := by omega
  have i7 : (on : Int) < M.soft.length := by omega
  have i8 : 0 < M.soft.length := by omega
  by_cases hz0 : z0 < 0
  · rw [Int.max_eq_right (by omega)] at hwt2
    simp only [Int.toNat_zero, Nat.zero_min] at hwt2
    rw [show ad9.add 0 = ad9 from by simp [Addr.add]] at hwt2
    have o4 : ¬ ((on : Int) < 0) := by omega
    go_quiet ((go_at_call 78; exact quiet_left (HWR.out _)))
    exact hQ _ _ _ _ _ _ _ _ _ _ _ _ _ _ _ _ _ _
  · obtain ⟨q, hq⟩ := Int.eq_ofNat_of_zero_le (show 0 ≤ z0 by omega)
    subst hq
    rw [Int.max_eq_left (by omega), Int.toNat_natCast] at hwt2
    by_cases hqq : q ≤ on
    · rw [Nat.min_eq_left hqq] at hwt2
      have i9 : q < M.soft.length := by omega
      have o4 : ¬ (on < q) := by omega
      go_quiet ((go_at_call 78; exact quiet_left (HWR.out _)))
      exact hQ _ _ _ _ _ _ _ _ _ _ _ _ _ _ _ _ _ _
    · rw [Nat.min_eq_right (by omega)] at hwt2
      have o4 : on < q := by omega
      go_quiet ((go_at_call 78; exact quiet_left (HWR.out _)))
      exact hQ _ _ _ _ _ _ _ _ _ _ _ _ _ _ _ _ _ _

end Go.Proofs.YtedkfehdfmimoaaGreat

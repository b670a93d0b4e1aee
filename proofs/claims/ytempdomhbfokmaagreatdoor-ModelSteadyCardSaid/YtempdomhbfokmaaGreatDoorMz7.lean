/- weights. attend. -/
import Derived.Test.YtempdomhbfokmaaGreatDoorMz6
import Derived.StillTailTactics
namespace Go.Proofs.YtempdomhbfokmaaGreatDoor
open Go.RowKit

def Model.weightOf (m : Model) (s : List Int) (v : Int) : Int := m.odds.getD (min ((maxF s - s.getD v.toNat 0) / 2 ^ (m.cut 3).toNat).toNat (m.odds.length - 1)) 0
def Model.weights (m : Model) (s : List Int) : List Int := (rankF s m.top).foldl (fun out v => out.set v.toNat (m.weightOf s v)) (List.replicate m.vocab 0)

theorem Slc.blk {w : World} {T : Nat → Prop} {ad : Addr} {n c : Nat} {xs : List Int} {k : Nat} (h : Slc w T (.slice (some ad) n c) xs) (hk : k < xs.length) : T ad.block := by
  obtain ⟨A', c', he, hr, -⟩ := h
  injection he with h1 h2 h3
  subst h1 h2 h3
  obtain ⟨ad', e, -, ht, -⟩ := hr.2 (by omega)
  injection e with e
  subst e
  exact ht
theorem maxF_ge (l : List Int) {x : Int} (h : x ∈ l) : x ≤ maxF l := by
  match l, h with
  | y :: l, h =>
    have key : ∀ (l : List Int) (s : Int), s ≤ l.foldl max s ∧ ∀ z ∈ l, z ≤ l.foldl max s := by
      intro l
      induction l with
      | nil => exact fun s => ⟨Int.le_refl _, fun z hz => absurd hz (by simp)⟩
      | cons p l ih =>
        intro s
        obtain ⟨i1, i2⟩ := ih (max s p)
        simp only [List.foldl_cons]
        refine ⟨by omega, fun z hz => ?_⟩
        rcases List.mem_cons.1 hz with rfl | hz
        · omega
        · exact i2 z hz
    rcases List.mem_cons.1 h with rfl | h
    · exact (key l _).1
    · exact (key l y).2 x h
theorem rankF_mem (s : List Int) (k : Nat) {x : Int} (h : x ∈ rankF s k) : 0 ≤ x ∧ x < s.length := order_mem (isortTo_mem _ _ _ _ (List.mem_of_mem_take h))
theorem rankF_length (s : List Int) (k : Nat) (h : k ≤ s.length) : (rankF s k).length = k := by simp [rankF, isort, isortTo_length, order]; omega
def Model.wTo (m : Model) (s : List Int) (k : Nat) : List Int := ((rankF s m.top).take k).foldl (fun out v => out.set v.toNat (m.weightOf s v)) (List.replicate m.vocab 0)
theorem Model.wTo_length (m : Model) (s : List Int) (k : Nat) : (m.wTo s k).length = m.vocab := by
  unfold Model.wTo
  generalize (rankF s m.top).take k = l
  have key : ∀ (l : List Int) (o : List Int), (l.foldl (fun out v => out.set v.toNat (m.weightOf s v)) o).length = o.length := by
    intro l
    induction l with
    | nil => exact fun _ => rfl
    | cons x l ih => exact fun o => by rw [List.foldl_cons, ih]; simp
  rw [key]
  simp
theorem Model.wTo_step (m : Model) (s : List Int) (k : Nat) (h : k < (rankF s m.top).length) : m.wTo s (k + 1) = (m.wTo s k).set ((rankF s m.top)[k]).toNat (m.weightOf s (rankF s m.top)[k]) := by
  unfold Model.wTo
  rw [List.take_succ_eq_append_getElem h, List.foldl_append]
  rfl

set_option maxRecDepth 100000 in
set_option maxHeartbeats 1000000 in
theorem weights_any (w : World) (T T' : Nat → Prop) (M : Model) (v4 v5 v6 v7 v8 v9 v10 v : Value) (h : MSl w T M v4 v5 v6 v7 v8 v9 v10) (hM : M.Ok) (s : List Int) (hs : Slc w T' v s) (hl : s.length = M.vocab) (hsw : inRange (-2147483648) 2147483647 s) :
    Calls Tryz.prog 70 #[.agg #[.int .i64 M.kind, .int .i64 M.vocab, .int .i64 M.width, .int .i64 M.top, v4, v5, v6, v7, v8, v9, v10], v] w (RetFresh w 3 1 M.vocab (ints (M.weights s))) := by
  obtain ⟨hv1, hv2⟩ := hM.vocab
  obtain ⟨ht1, ht2⟩ := hM.top
  replace h := h.old
  replace hs := hs.old
  clear T T'
  obtain ⟨A, c, rfl⟩ := hs.len
  obtain ⟨A4, c4, rfl⟩ := h.cuts.len
  obtain ⟨A10, c10, rfl⟩ := h.odds.len
  have hcut : 3 < M.cuts.length := by have := hM.lcuts; omega
  obtain ⟨o1, o2⟩ := hM.lodds
  have hsl1 : 0 < s.length := by omega
  have hsl2 : s.length ≤ 16 := by omega
  have htop : M.top ≤ s.length := by omega
  rw [hl] at hs ⊢
  have HL := Lib.hid hl
  clear hl
  go_enter Tryz.func70, Tryz.ntmps70
  go_wp2_with (at_make; refine wpList_make_ints _ rfl _ _ rfl _ _ M.vocab rfl rfl rfl rfl (by omega) ?_; intro w1 hown hb1 hz1)
  have hm1 := (h.alloc _).fresh hb1
  have hs1 := (hs.alloc _).fresh hb1
  have k1 := (Blk.new w 35 _).below hb1 (by simp)
  have b1 : Below w.heap.size w w1 := ((Below.refl _ _).alloc (Nat.le_refl _) _).trans (hb1.mono (by simp))
  clear hb1 h hs
  have z1 := k1.lt
  have q1 := k1.cell
  refine (max_any _ _ _ s hs1 (by omega) hsl1).mono ?_
  rintro e w' ⟨rfl, rfl⟩
  go_wp2_with fail
  refine (rank_any _ _ _ s hs1 (by omega) M.top htop).mono ?_
  rintro e w2 ⟨u, rfl, hu, hb2⟩
  have hl2 := rankF_length s M.top htop
  obtain ⟨Au, cu, rfl⟩ := hu.len
  have hm2 := hm1.fresh hb2
  have hs2 := hs1.fresh hb2
  have k2 := k1.below hb2 z1
  have b2 : Below w.heap.size w w2 := b1.trans (hb2.mono b1.size)
  have ho2 := hown.fresh hb2
  have z2 := k2.lt
  have zz := hb2.size
  clear hm1 hs1 k1 b1 hown hb2 q1
  rw [hl2] at hu ⊢
  have HL2 := Lib.hid hl2
  clear hl2
  go_wp2_with fail
  go_loopw [19] (fun i wr => ∃ j : Nat, j ≤ M.top ∧ i = .int .i64 j ∧ Own wr (fun g => g = w.heap.size + 1) 3 1 (.slice (some ⟨w.heap.size + 1, 0, none⟩) M.vocab M.vocab) M.vocab (ints (M.wTo s j)) ∧ Keeps (· = w.heap.size + 1) w2 wr) (fun i _ => M.top - (intOf i).toNat)
  case atStart => exact ⟨0, by omega, rfl, by simpa [Model.wTo] using ho2, Keeps.refl _ _⟩
  obtain ⟨j, hj, rfl, ho, hkp⟩ := hrel
  by_cases hlt : j < M.top
  · have hlr : j < (rankF s M.top).length := by rw [HL2.out]; exact hlt
    have hur := hu.keeps hkp (fun i hi => by simp at hz1; omega)
    have hsr := hs2.keeps hkp (fun i hi => by omega)
    have hmr := hm2.keeps hkp (fun i hi => by omega)
    have kr := hkp.blk k2 (by omega)
    obtain ⟨-, ad, rfl, cu1⟩ := hur.at_ j hlr
    obtain ⟨x0, x1⟩ := rankF_mem s M.top (List.getElem_mem hlr)
    obtain ⟨x, hx⟩ := Int.eq_ofNat_of_zero_le x0
    have HW := Lib.hid (M.wTo_step s j hlr)
    rw [hx] at cu1 x1 HW
    rw [Int.toNat_natCast] at HW
    have hxl : x < s.length := by omega
    obtain ⟨-, ad1, rfl, cs1⟩ := hsr.at_ x hxl
    obtain ⟨-, ad4, rfl, cc1⟩ := hmr.cuts.at_ 3 hcut
    have hy1 := hsw _ (List.getElem_mem hxl)
    have hy2 := maxF_ge s (List.getElem_mem hxl)
    have hy3 := maxF_word s hsw
    obtain ⟨hc1, hc2⟩ := hM.cuts _ (List.getElem_mem hcut)
    have ec : M.cuts[3] = M.cut 3 := by simp [Model.cut, List.getD, hcut]
    have es : s[x] = s.getD x 0 := by simp [List.getD, hxl]
    have hq0 : 0 ≤ (maxF s - s.getD x 0) / 2 ^ (M.cut 3).toNat := Int.ediv_nonneg (by rw [← es]; omega) (Int.le_of_lt (Int.pow_pos (by omega)))
    rw [ec] at cc1 hc1 hc2
    rw [es] at cs1 hy1 hy2
    have hfr := ho.unfrozen x
    have hcr := ho.get x (by rw [← HL.out]; exact hxl)
    rw [ints_get _ x (by rw [Model.wTo_length, ← HL.out]; exact hxl)] at hcr
    have HWO : RowKit.Hid (M.weightOf s x = M.odds.getD (min ((maxF s - s.getD x 0) / 2 ^ (M.cut 3).toNat).toNat (M.odds.length - 1)) 0) := rfl
    have d4 := kr.cell 4
    have d10 := kr.cell 10
    have hxv : x < M.vocab := by rw [← HL.out]; exact hxl
    have i1 : (0 : Int) ≤ x := by omega
    have i2 : (x : Int) < M.vocab := by omega
    obtain ⟨y, hy⟩ : ∃ y, y = s.getD x 0 := ⟨_, rfl⟩
    obtain ⟨c3, hc3⟩ : ∃ c3, c3 = M.cut 3 := ⟨_, rfl⟩
    rw [← hy] at cs1 hy1 hy2 hq0 HWO
    rw [← hc3] at cc1 hc1 hc2 hq0 HWO
    clear hy hc3 ec es x0 hx
    generalize hmx : maxF s = mx at *
    clear hmx
    obtain ⟨m1, m2⟩ := hy3
    obtain ⟨y1, y2⟩ := hy1
    have i3 : IntKind.i64.wrap (mx - y) = mx - y := IntWalk.i64_in _ ⟨by omega, by omega⟩
    have cc2 : wr.cell? ⟨ad4.block, ad4.off + 3, none⟩ = some (.int .i64 c3) := by simpa [Addr.add] using cc1
    have i4 : (3 : Int) < M.cuts.length := by omega
    obtain ⟨q, hqe⟩ : ∃ q : Nat, (mx - y) / 2 ^ c3.toNat = q := Int.eq_ofNat_of_zero_le hq0
    obtain ⟨on, hon⟩ : ∃ on : Nat, M.odds.length = on + 1 := ⟨M.odds.length - 1, by omega⟩
    have i9 : (M.odds.length : Int) - 1 = on := by omega
    have i5 : IntKind.i64.wrap (on : Int) = on := IntWalk.i64_in _ ⟨by omega, by omega⟩
    have hfar : ∀ (u : Value) (a : Addr), a.block < w.heap.size → (wr.setCell ⟨w.heap.size + 1, x, none⟩ u).cell? a = wr.cell? a := fun u a ha => World.cell?_setCell_other _ _ _ _ (fun e => by subst e; simp at ha; omega)
    have hfin : ∀ z : Int, z = M.weightOf s x → Own (wr.drew.setCell ⟨w.heap.size + 1, x, none⟩ (.int .i64 z)) (fun g => g = w.heap.size + 1) 3 1 (.slice (some ⟨w.heap.size + 1, 0, none⟩) M.vocab M.vocab) M.vocab (ints (M.wTo s (j + 1))) := by
      intro z hz
      have := ho.drew.set x hxv (.int .i64 z)
      rw [HW.out, ← hz]
      simpa [ints, List.map_set] using this
    have HFN := Lib.hid hfin
    clear hfin
    rw [hqe, Int.toNat_natCast] at HWO
    have hb1 : ∀ u, (wr.setCell ⟨w.heap.size + 1, x, none⟩ u).cell? (ad1.add x) = some (.int .i64 y) := fun u => (hfar u _ (by rw [block_of_add]; exact hsr.blk hxl)).trans cs1
    have hb4 : ∀ u, (wr.setCell ⟨w.heap.size + 1, x, none⟩ u).cell? ⟨ad4.block, ad4.off + 3, none⟩ = some (.int .i64 c3) := fun u => (hfar u ⟨ad4.block, ad4.off + 3, none⟩ (hmr.cuts.blk hcut)).trans cc2
    obtain ⟨z, ad10', hz, he10, co1⟩ : ∃ (z : Int) (ad10 : Addr), M.weightOf s x = z ∧ A10 = some ad10 ∧ wr.cell? (ad10.add (min q on)) = some (.int .i64 z) := by
      obtain ⟨-, ad10, e, co1⟩ := hmr.odds.at_ (min q on) (by omega)
      refine ⟨_, ad10, ?_, e, co1⟩
      rw [HWO.out, show M.odds.length - 1 = on from by omega]
      have : min q on < M.odds.length := by omega
      simp [List.getD, this]
    subst he10
    have hb10 : ∀ u, (wr.setCell ⟨w.heap.size + 1, x, none⟩ u).cell? (ad10'.add (min q on)) = some (.int .i64 z) := fun u => (hfar u _ (by rw [block_of_add]; exact hmr.odds.blk (k := 0) (by omega))).trans co1
    have HZ := Lib.hid hz
    have HON := Lib.hid hon
    have i10 : on < M.odds.length := by omega
    have i11 : q ≤ on → q < M.odds.length := by omega
    clear hz hon hfar hq0
    by_cases hqq : q ≤ on
    · rw [Nat.min_eq_left hqq] at co1 hb10
      have i12 := i11 hqq
      have i7 : ¬ (on < q) := by omega
      clear i11
      go_wp2_with fail
      go_region_held3 (fun w' => w'.cell? ⟨w.heap.size, 4, none⟩ = some (.slice (some ad4) M.cuts.length c4) ∧ w'.cell? ⟨w.heap.size, 10, none⟩ = some (.slice (some ad10') M.odds.length c10) ∧ w'.cell? (ad1.add x) = some (.int .i64 y) ∧ w'.cell? ⟨ad4.block, ad4.off + 3, none⟩ = some (.int .i64 c3) ∧ w'.cell? (ad10'.add q) = some (.int .i64 z)) (go_keep) (fail)
      go_wp2_with fail
      go_roundw
      case rel => exact ⟨j + 1, by omega, by go_num, HFN.out _ HZ.out.symm, Keeps.setCell hkp.drew (fun _ => rfl) _⟩
      case measure => simp [intOf]; omega
    · rw [Nat.min_eq_right (by omega)] at co1 hb10
      have i7 : on < q := by omega
      clear i11
      go_wp2_with fail
      go_region_held3 (fun w' => w'.cell? ⟨w.heap.size, 4, none⟩ = some (.slice (some ad4) M.cuts.length c4) ∧ w'.cell? ⟨w.heap.size, 10, none⟩ = some (.slice (some ad10') M.odds.length c10) ∧ w'.cell? (ad1.add x) = some (.int .i64 y) ∧ w'.cell? ⟨ad4.block, ad4.off + 3, none⟩ = some (.int .i64 c3) ∧ w'.cell? (ad10'.add on) = some (.int .i64 z)) (go_keep) (fail)
      go_wp2_with fail
      go_roundw
      case rel => exact ⟨j + 1, by omega, by go_num, HFN.out _ HZ.out.symm, Keeps.setCell hkp.drew (fun _ => rfl) _⟩
      case measure => simp [intOf]; omega
  · obtain rfl : j = M.top := by omega
    have e : M.wTo s M.top = M.weights s := by unfold Model.wTo Model.weights; rw [List.take_of_length_le (by rw [HL2.out]; exact Nat.le_refl _)]
    rw [e] at ho
    go_wp2_with fail
    go_ret
    exact ⟨_, rfl, ho.more fun g _ hg => by omega, b2.trans ⟨hkp.os, hkp.tape, hkp.output, hkp.size, fun k hk => hkp.block k (by omega) (by omega)⟩⟩
end Go.Proofs.YtempdomhbfokmaaGreatDoor

namespace Go.Proofs.YtempdomhbfokmaaGreatDoor
open Go.RowKit

/-- what attention makes of entries -/
def Model.last (m : Model) (es : List (List Int)) : List Int := (es.getD (es.length - 1) []).drop (2 * m.width)
def Model.att (m : Model) (es : List (List Int)) (e : List Int) : Int := shiftF (dotF (e.take m.width) (m.last es)) (m.cut 1)
def Model.atts (m : Model) (es : List (List Int)) : List Int := es.map (m.att es)
def Model.softOf (m : Model) (most s : Int) : Int := m.soft.getD (min (max (wr (most - s)) 0).toNat (m.soft.length - 1)) 0
def Model.mixIn (m : Model) (most : Int) (h : List Int) (p : List Int × Int) : List Int := List.zipWith (fun a v => wr (a + wr (m.softOf most p.2 * v))) h ((p.1.drop m.width).take m.width)
def Model.attH (m : Model) (es : List (List Int)) : List Int := ((List.zip es (m.atts es))).foldl (m.mixIn (maxF (m.atts es))) (List.replicate m.width 0)
def Model.attend (m : Model) (es : List (List Int)) : List Int := (m.attH es).map fun x => shiftF x (m.cut 2)

theorem shiftF_word (n c : Int) (h1 : 1 ≤ c) (h2 : c ≤ 15) (hn : word n) : word (shiftF n c) := by
  obtain ⟨a, b⟩ := hn
  have : c = 1 ∨ c = 2 ∨ c = 3 ∨ c = 4 ∨ c = 5 ∨ c = 6 ∨ c = 7 ∨ c = 8 ∨ c = 9 ∨ c = 10 ∨ c = 11 ∨ c = 12 ∨ c = 13 ∨ c = 14 ∨ c = 15 := by omega
  unfold word shiftF
  rcases this with rfl | rfl | rfl | rfl | rfl | rfl | rfl | rfl | rfl | rfl | rfl | rfl | rfl | rfl | rfl <;> simp <;> omega

def Model.mixTo (m : Model) (es : List (List Int)) (k : Nat) : List Int := ((List.zip es (m.atts es)).take k).foldl (m.mixIn (maxF (m.atts es))) (List.replicate m.width 0)
theorem Model.mixTo_step (m : Model) (es : List (List Int)) (k : Nat) (h : k < es.length) : m.mixTo es (k + 1) = m.mixIn (maxF (m.atts es)) (m.mixTo es k) (es[k], (m.atts es)[k]'(by simpa [Model.atts] using h)) := by
  have hz : k < (List.zip es (m.atts es)).length := by simp [Model.atts, h]
  unfold Model.mixTo
  rw [List.take_succ_eq_append_getElem hz, List.foldl_append]
  simp [List.getElem_zip]
theorem Model.mixTo_length (m : Model) (es : List (List Int)) (h : ∀ e ∈ es, e.length = 3 * m.width) (k : Nat) : (m.mixTo es k).length = m.width := by
  unfold Model.mixTo
  have key : ∀ (l : List (List Int × Int)) (o : List Int), o.length = m.width → (∀ p ∈ l, p.1.length = 3 * m.width) → (l.foldl (m.mixIn (maxF (m.atts es))) o).length = m.width := by
    intro l
    induction l with
    | nil => exact fun _ h _ => h
    | cons x l ih =>
      intro o ho hl
      rw [List.foldl_cons]
      refine ih _ ?_ fun p hp => hl p (by simp [hp])
      have := hl x (by simp)
      simp [Model.mixIn, ho, this]
      omega
  refine key _ _ (by simp) fun p hp => ?_
  have := List.mem_of_mem_take hp
  exact h _ (List.of_mem_zip this).1
/-- element by element -/
theorem zip_step (f : Int → Int → Int) (x y : List Int) (k : Nat) (hx : k < x.length) (hy : k < y.length) :
    (List.zipWith f (x.take k) (y.take k) ++ x.drop k).set k (f x[k] y[k]) = List.zipWith f (x.take (k + 1)) (y.take (k + 1)) ++ x.drop (k + 1) := by
  have hl : (List.zipWith f (x.take k) (y.take k)).length = k := by simp; omega
  rw [List.set_append_right _ _ (by omega), hl, Nat.sub_self, List.drop_eq_getElem_cons hx, List.set_cons_zero, List.take_succ_eq_append_getElem hx, List.take_succ_eq_append_getElem hy]
  rw [List.zipWith_append (by simp; omega)]
  simp
theorem zip_get (f : Int → Int → Int) (x y : List Int) (k : Nat) (hx : k < x.length) (hy : k < y.length) : (ints (List.zipWith f (x.take k) (y.take k) ++ x.drop k))[k]? = some (.int .i64 x[k]) := by
  have hl : (List.zipWith f (x.take k) (y.take k)).length = k := by simp; omega
  simp only [ints, List.map_append]
  rw [List.getElem?_append_right (by rw [List.length_map, hl]; exact Nat.le_refl _), List.length_map, hl, Nat.sub_self]
  simp [hx]

def goodEntries (m : Model) (es : List (List Int)) : Prop := ∀ e ∈ es, e.length = m.len ∧ inRange (-2147483648) 2147483647 e

noncomputable def attendR14 : Code := (Tryz.f95.body.bind (findRegion 14)).getD .skip

set_option maxRecDepth 100000 in
set_option maxHeartbeats 2000000 in

/-- The weight of an entry. -/
theorem attend_r14 (wr : World) (T : Nat → Prop) (M : Model) (hM : M.Ok) (v9 : Value) (hso : Slc wr T v9 M.soft) (B : Nat) (hbx : wr.cell? ⟨B, 9, none⟩ = some v9) (as7 : Addr) (n7 c7 k : Nat) (y mx : Int) (hk : k < n7) (csk : wr.cell? (as7.add k) = some (.int .i64 y))
    (hmx : word mx) (hy : word y) (s0 s1 s3 s4 s5 s6 s8 s9 s11 s13 s14 s15 s16 s17 s18 s19 s20 s21 s22 s23 s24 s25 s26 s27 s28 s29 s30 s31 s32 s33 s34 s35 s36 s37 s38 s39 s40 s41 s42 s43 s44 s45 s46 s47 s48 s49 s50 s51 s52 s53 s54 s55 s56 s57 s58 s59 s60 s61 s62 s63 s64 s65 s66 s67 s68 s69 s70 s71 s72 s73 s74 s75 s76 s77 s78 s79 s80 s81 s82 s83 s84 s85 s86 s87 s88 s89 s90 s91 s92 s93 s94 s95 s96 s97 s98 s99 s100 s101 s102 s103 s104 s105 s106 s107 s108 s109 s110 s111 s112 s113 s114 s115 s116 s117 s118 s119 s120 s121 : Value) (Q : Exit → Act → World → Prop)
    (hQ : ∀ (nd : Nat) (y60 y61 y62 y63 y64 y65 y66 y67 y68 y69 y70 y71 y72 y73 y74 y75 y76 : Value), Q .normal ⟨#[s0, s1, .pointer (some ⟨B, 0, none⟩), s3, s4, s5, s6, .slice (some as7) n7 c7, s8, s9, .int .i64 mx, s11, .int .i64 k, s13, .int .i64 (M.softOf mx y), s15, s16, s17, s18, s19, s20, s21, s22, s23, s24, s25, s26, s27, s28, s29, s30, s31, s32, s33, s34, s35, s36, s37, s38, s39, s40, s41, s42, s43, s44, s45, s46, s47, s48, s49, s50, s51, s52, s53, s54, s55, s56, s57, s58, s59, y60, y61, y62, y63, y64, y65, y66, y67, y68, y69, y70, y71, y72, y73, y74, y75, y76, s77, s78, s79, s80, s81, s82, s83, s84, s85, s86, s87, s88, s89, s90, s91, s92, s93, s94, s95, s96, s97, s98, s99, s100, s101, s102, s103, s104, s105, s106, s107, s108, s109, s110, s111, s112, s113, s114, s115, s116, s117, s118, s119, s120, s121], []⟩ (wr.drewN nd)) :
    Code.wp Tryz.prog attendR14 Q ⟨#[s0, s1, .pointer (some ⟨B, 0, none⟩), s3, s4, s5, s6, .slice (some as7) n7 c7, s8, s9, .int .i64 mx, s11, .int .i64 k, s13, s14, s15, s16, s17, s18, s19, s20, s21, s22, s23, s24, s25, s26, s27, s28, s29, s30, s31, s32, s33, s34, s35, s36, s37, s38, s39, s40, s41, s42, s43, s44, s45, s46, s47, s48, s49, s50, s51, s52, s53, s54, s55, s56, s57, s58, s59, s60, s61, s62, s63, s64, s65, s66, s67, s68, s69, s70, s71, s72, s73, s74, s75, s76, s77, s78, s79, s80, s81, s82, s83, s84, s85, s86, s87, s88, s89, s90, s91, s92, s93, s94, s95, s96, s97, s98, s99, s100, s101, s102, s103, s104, s105, s106, s107, s108, s109, s110, s111, s112, s113, s114, s115, s116, s117, s118, s119, s120, s121], []⟩ wr := by
  conv => arg 2; whnf
  obtain ⟨s1, s2⟩ := hM.lsoft
  obtain ⟨on, hon⟩ : ∃ on : Nat, M.soft.length = on + 1 := ⟨M.soft.length - 1, by omega⟩
  have HON := Lib.hid hon
  have o1 : on < M.soft.length := by omega
  have o2 : (M.soft.length : Int) - 1 = on := by omega
  have o3 : IntKind.i64.wrap (on : Int) = on := IntWalk.i64_in _ ⟨by omega, by omega⟩
  clear hon
  obtain ⟨A9, c9, rfl⟩ := hso.len
  obtain ⟨-, ad9, rfl, cs0⟩ := hso.at_ 0 (by omega)
  obtain ⟨m1, m2⟩ := hmx
  obtain ⟨y1, y2⟩ := hy
  have i3 : IntKind.i64.wrap (mx - y) = mx - y := IntWalk.i64_in _ ⟨by omega, by omega⟩
  have hwt2 : wr.cell? (ad9.add (min (max (Go.Proofs.YtempdomhbfokmaaGreatDoor.wr (mx - y)) 0).toNat on)) = some (.int .i64 (M.softOf mx y)) := by
    have hlt : min (max (Go.Proofs.YtempdomhbfokmaaGreatDoor.wr (mx - y)) 0).toNat on < M.soft.length := by omega
    obtain ⟨-, ad, e, c⟩ := hso.at_ _ hlt
    injection e with e
    subst e
    rw [c]
    unfold Model.softOf
    rw [show M.soft.length - 1 = on from by have := HON.out; omega]
    simp [List.getD, hlt]
  generalize M.softOf mx y = wt at *
  have hwr := fun W => wrap_any (mx - y) W
  generalize Go.Proofs.YtempdomhbfokmaaGreatDoor.wr (mx - y) = z0 at *
  have HWR := Lib.hid hwr
  clear hwr
  have i4 : (0 : Int) ≤ k := by omega
  have i5 : (k : Int) < n7 := by omega
  have i6 : (0 : Int) ≤ on := by omega
  have i7 : (on : Int) < M.soft.length := by omega
  have i8 : 0 < M.soft.length := by omega
  by_cases hz0 : z0 < 0
  · rw [Int.max_eq_right (by omega)] at hwt2
    simp only [Int.toNat_zero, Nat.zero_min] at hwt2
    rw [show ad9.add 0 = ad9 from by simp [Addr.add]] at hwt2
    have o4 : ¬ ((on : Int) < 0) := by omega
    go_quiet ((go_at_call 65; exact quiet_left (HWR.out _)))
    exact hQ _ _ _ _ _ _ _ _ _ _ _ _ _ _ _ _ _ _
  · obtain ⟨q, hq⟩ := Int.eq_ofNat_of_zero_le (show 0 ≤ z0 by omega)
    subst hq
    rw [Int.max_eq_left (by omega), Int.toNat_natCast] at hwt2
    by_cases hqq : q ≤ on
    · rw [Nat.min_eq_left hqq] at hwt2
      have i9 : q < M.soft.length := by omega
      have o4 : ¬ (on < q) := by omega
      go_quiet ((go_at_call 65; exact quiet_left (HWR.out _)))
      exact hQ _ _ _ _ _ _ _ _ _ _ _ _ _ _ _ _ _ _
    · rw [Nat.min_eq_right (by omega)] at hwt2
      have o4 : on < q := by omega
      go_quiet ((go_at_call 65; exact quiet_left (HWR.out _)))
      exact hQ _ _ _ _ _ _ _ _ _ _ _ _ _ _ _ _ _ _

end Go.Proofs.YtempdomhbfokmaaGreatDoor

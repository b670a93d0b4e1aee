/- Alone: the tokens that a request has alone, for models of every kind. A longer answer begins with a shorter one, in plain words. -/
import Derived.Test.YtempdomhbfokmaaGreatDoorMz9
import Derived.Test.YtempdomhbfokmaaGreatDoorMz10
import Derived.Test.YtempdomhbfokmaaGreatDoorMz12
import Derived.Deep.RegionHeld3
namespace Go.Proofs.YtempdomhbfokmaaGreatDoor
open Go.RowKit

def entriesOf (M : Model) (l : List Int) : List (List Int) := l.zipIdx.map fun x => M.entry x.1.toNat x.2
/-- What a call of Submit brings. -/
structure Ask where
  id : Int
  deadline : Int
  prompt : List Int
  most : Int
  seed : Int
def askVal (vp : Value) (r : Ask) : Value := .agg #[.int .i64 r.id, .int .i64 r.deadline, vp, .int .i64 r.most, .int .i64 r.seed]
theorem ints_info : (Tryz.prog.info? 22).map (fun i => (i.zero, i.size, i.bytes)) = some (some (.slice none 0 0), 1, 24) := by kernel_rfl
theorem entriesOf_length (M : Model) (l : List Int) : (entriesOf M l).length = l.length := by simp [entriesOf]
theorem entriesOf_take (M : Model) (l : List Int) (k : Nat) (h : k < l.length) : (entriesOf M l).take (k + 1) = (entriesOf M l).take k ++ [M.entry (l[k]).toNat k] := by
  rw [List.take_add_one]
  congr 1
  unfold entriesOf
  rw [List.getElem?_map, List.getElem?_zipIdx, List.getElem?_eq_getElem h]
  simp
theorem entriesOf_good (M : Model) (hM : M.Ok) (l : List Int) (hl : ∀ t ∈ l, 0 ≤ t ∧ t < (M.vocab : Int)) : goodEntries M (entriesOf M l) := by
  intro e he
  obtain ⟨x, hx, rfl⟩ := List.mem_map.1 he
  have := hl x.1 (List.fst_mem_of_mem_zipIdx hx)
  exact M.entry_good hM _ _ (by omega)
def gen (M : Model) (seed : Int) (p : List Int) : Nat → List Int
  | 0 => []
  | k + 1 => gen M seed p k ++ [((M.next (entriesOf M (p ++ gen M seed p k)) (drawF seed k) : Nat) : Int)]
def tokA (M : Model) (seed : Int) (p : List Int) (k : Nat) : Int := (M.next (entriesOf M (p ++ gen M seed p k)) (drawF seed k) : Nat)
theorem gen_succ (M : Model) (seed : Int) (p : List Int) (k : Nat) : gen M seed p (k + 1) = gen M seed p k ++ [tokA M seed p k] := rfl
theorem gen_length (M : Model) (seed : Int) (p : List Int) (k : Nat) : (gen M seed p k).length = k := by
  induction k with
  | zero => rfl
  | succ k ih => rw [gen_succ, List.length_append, ih]; rfl
def stopA (M : Model) (seed : Int) (p : List Int) (most : Int) (k : Nat) : Prop := tokA M seed p k = 0 ∨ (k : Int) + 1 = most
/-- K tokens are what the request has alone -/
structure IsAlone (M : Model) (seed : Int) (p : List Int) (most : Int) (K : Nat) : Prop where
  one : 1 ≤ K
  stop : stopA M seed p most (K - 1)
  first : ∀ j, j < K - 1 → ¬ stopA M seed p most j
theorem IsAlone.unique {M : Model} {seed : Int} {p : List Int} {most : Int} {K L : Nat} (h : IsAlone M seed p most K) (k : IsAlone M seed p most L) : K = L := by
  have h1 := h.one
  have k1 := k.one
  rcases Nat.lt_trichotomy K L with e | e | e
  · exact absurd h.stop (k.first _ (by omega))
  · exact e
  · exact absurd k.stop (h.first _ (by omega))
section
variable {w w' : World} {T T' S : Nat → Prop} {e e' : TypeId} {size size' n n' : Nat} {v v' : Value} {xs xs' : List Value}
theorem Own.keeps' (h : Own w T e size v n xs) (hk : Keeps S w w') (hs : ∀ g, v.ownBlock = some g → ¬ S g) : Own w' T e size v n xs :=
  ((show Own w (fun g => T g ∧ v.ownBlock = some g) e size v n xs from ⟨h.1, fun g hg => ⟨h.2 g hg, hg⟩⟩).keeps hk fun i hi => hs i hi.2).more fun g _ hg => hg.1
theorem Own.ne_own (h : Own w T e size v n xs) (h' : Own w T' e' size' v' n' xs') (hne : e ≠ e') {g : Nat} (hg : v.ownBlock = some g) : v'.ownBlock ≠ some g := by
  intro hg'
  rcases h.1.2 with ⟨rfl, _⟩ | ⟨g1, cap, cur, rfl, _, hh, _⟩
  · simp [Value.ownBlock] at hg
  · have e1 : g1 = g := by simpa [Value.ownBlock] using hg
    subst e1
    exact h'.ne_blk (g := g1) (t := e) (cs := cur) hh (fun q => hne q.symm) hg'
end
/-- The entries: a row of rows. -/
structure Ents (B : Nat) (w : World) (T2 : Nat → Prop) (v : Value) (vs : List Value) (es : List (List Int)) : Prop where
  own : Own w (fun g => B ≤ g) 22 1 v es.length vs
  rows : Rows w T2 vs es
  one : ∀ u ∈ vs, u.oneCell' = true
  t1 : ∀ g, v.ownBlock = some g → ¬ T2 g
  t2 : ∀ g, T2 g → g < w.heap.size
section
variable {B : Nat} {w w' w2 w3 : World} {T2 S : Nat → Prop} {v v' u : Value} {vs : List Value} {es : List (List Int)} {x : List Int}
theorem Ents.fresh (h : Ents B w T2 v vs es) (hb : Below w.heap.size w w') : Ents B w' T2 v vs es :=
  ⟨h.own.fresh hb, h.rows.fresh hb, h.one, h.t1, fun g hg => Nat.lt_of_lt_of_le (h.t2 g hg) hb.size⟩
theorem Ents.keeps (h : Ents B w T2 v vs es) (hk : Keeps S w w') (h1 : ∀ g, v.ownBlock = some g → ¬ S g) (h2 : ∀ g, T2 g → ¬ S g) : Ents B w' T2 v vs es :=
  ⟨h.own.keeps' hk h1, h.rows.keeps hk h2, h.one, h.t1, fun g hg => Nat.lt_of_lt_of_le (h.t2 g hg) hk.size⟩
theorem Ents.push (h : Ents B w T2 v vs es) (hB : B ≤ w.heap.size) (hb2 : Below w.heap.size w w2) (hs : Slc w2 (fun g => w.heap.size ≤ g) u x) {o : Obj} (happ : Appended (w2.alloc o) w3 (fun g => B ≤ g) 22 1 v v' (es.length + 1) (vs ++ [u])) :
    Ents B w3 (fun g => T2 g ∨ (w.heap.size ≤ g ∧ g < w2.heap.size)) v' (vs ++ [u]) (es ++ [x]) ∧ Keeps (fun g => v.ownBlock = some g) w w3 ∧ Below B w w3 ∧ (v'.ownBlock = v.ownBlock ∨ v'.ownBlock = some (w2.heap.size + 1)) := by
  have ho2 := h.own.fresh hb2
  obtain ⟨o1, o2⟩ := appBelow happ (by have := hb2.size; simp; omega) (fun g hg => ho2.2 g hg)
  have hgr : w2.grownBy w3 v.ownBlock := grown_after (wr := w2) (W1 := w2) (n := 0) (Below.refl _ _) happ.2.1
  have kk : Keeps (fun g => v.ownBlock = some g) w2 w3 := (Keeps.refl _ w2).grown hgr (fun k e _ => e)
  have r1 : Rows w2 (fun g => T2 g ∨ (w.heap.size ≤ g ∧ g < w2.heap.size)) vs es := (h.rows.fresh hb2).more fun g _ h => Or.inl h
  have r2 : Slc w2 (fun g => T2 g ∨ (w.heap.size ≤ g ∧ g < w2.heap.size)) u x := hs.more fun g hg h => Or.inr ⟨h, hg⟩
  have r3 := (r1.snoc r2).keeps kk fun g hg e => by
    rcases hg with hg | hg
    · exact h.t1 g e hg
    · have := h.own.lt e; omega
  refine ⟨⟨?_, r3, ?_, ?_, ?_⟩, (Keeps.of_below hb2 _).tr kk, ?_, ?_⟩
  · rw [List.length_append]; exact o1
  · intro u hu
    rcases List.mem_append.1 hu with hu | hu
    · exact h.one u hu
    · simp at hu; subst hu; exact hs.one
  · intro g hg hT
    rcases happ.2.2 with e | e
    · rw [e] at hg
      rcases hT with hT | hT
      · exact h.t1 g hg hT
      · have := h.own.lt hg; omega
    · rw [e] at hg
      injection hg with hg
      subst hg
      have hz := hb2.size
      rcases hT with hT | hT
      · have := h.t2 _ hT; simp at this; omega
      · have := hT.2; simp at this; omega
  · intro g hT
    have := hgr.size
    have := hb2.size
    rcases hT with hT | hT
    · have := h.t2 _ hT; omega
    · omega
  · refine (hb2.mono hB).trans ⟨o2.os, o2.tape, o2.output, Nat.le_trans (by simp) o2.size, fun q hq => (o2.block q hq).trans (Below.heap_alloc _ _ _ (by have := hb2.size; omega))⟩
  · rcases happ.2.2 with e | e
    · exact Or.inl e
    · exact Or.inr (by rw [e]; simp)
end
theorem entriesOf_snoc (M : Model) (l : List Int) (t : Int) : entriesOf M (l ++ [t]) = entriesOf M l ++ [M.entry t.toNat l.length] := by
  unfold entriesOf
  rw [List.zipIdx_append, List.map_append]
  simp
theorem entriesOf_take' (M : Model) (l : List Int) (k : Nat) : (entriesOf M l).take k = entriesOf M (l.take k) := by
  unfold entriesOf
  rw [← List.map_take]
  congr 1
  apply List.ext_getElem?
  intro i
  simp only [List.getElem?_take, List.getElem?_zipIdx]
  split <;> simp [*]
theorem IsAlone.at_ {M : Model} {seed : Int} {p : List Int} {most : Int} {k : Nat} (h : stopA M seed p most k) (hf : ∀ j, j < k → ¬ stopA M seed p most j) : IsAlone M seed p most (k + 1) := by
  have e : k + 1 - 1 = k := by omega
  refine ⟨by omega, ?_, fun j hj => hf j (by omega)⟩
  rw [e]
  exact h
theorem tokA_in (M : Model) (hM : M.Ok) (seed : Int) (p : List Int) (k : Nat) : 0 ≤ tokA M seed p k ∧ tokA M seed p k < (M.vocab : Int) := by
  unfold tokA
  have := M.next_lt hM (entriesOf M (p ++ gen M seed p k)) (drawF seed k) (drawF_range _ _)
  omega
theorem gen_in (M : Model) (hM : M.Ok) (seed : Int) (p : List Int) (k : Nat) : ∀ t ∈ gen M seed p k, 0 ≤ t ∧ t < (M.vocab : Int) := by
  induction k with
  | zero => intro t ht; cases ht
  | succ k ih =>
    intro t ht
    rw [gen_succ] at ht
    rcases List.mem_append.1 ht with h | h
    · exact ih t h
    · rw [List.mem_singleton.1 h]; exact tokA_in M hM seed p k
set_option maxRecDepth 100000 in
set_option maxHeartbeats 4000000 in
theorem alone_any (w : World) (T Tp : Nat → Prop) (M : Model) (v4 v5 v6 v7 v8 v9 v10 : Value) (h : MSl w T M v4 v5 v6 v7 v8 v9 v10) (hM : M.Ok) (r : Ask) (vp : Value) (hp : Slc w Tp vp r.prompt)
    (hmost : 1 ≤ r.most ∧ r.most ≤ 32) (hseed : -2147483648 ≤ r.seed ∧ r.seed ≤ 2147483647) (hpl : 1 ≤ r.prompt.length ∧ r.prompt.length ≤ 32) (htok : ∀ t ∈ r.prompt, 0 ≤ t ∧ t < (M.vocab : Int)) :
    Calls Tryz.prog 15 #[.agg #[.int .i64 M.kind, .int .i64 M.vocab, .int .i64 M.width, .int .i64 M.top, v4, v5, v6, v7, v8, v9, v10], askVal vp r] w fun e w' => ∃ (v : Value) (K : Nat), e = .returned (.tuple #[v, .int .i64 0]) ∧ IsAlone M r.seed r.prompt r.most K ∧ Own w' (fun g => w.heap.size ≤ g) 3 1 v K (ints (gen M r.seed r.prompt K)) ∧ Below w.heap.size w w' := by
  replace h := h.old
  clear T
  generalize hT : (fun b : Nat => b < w.heap.size) = T at h
  have HT := Lib.hid hT
  clear hT
  obtain ⟨A, c, rfl, hrp, hc1, hc2, -⟩ := hp
  obtain ⟨n, hn⟩ : ∃ n, n = r.prompt.length := ⟨_, rfl⟩
  rw [← hn] at hrp hpl hc1
  unfold askVal
  rw [← hn]
  have HN := Lib.hid hn
  have HTOK := Lib.hid htok
  obtain ⟨hv1, hv2⟩ := hM.vocab
  obtain ⟨hm1, hm2⟩ := hmost
  obtain ⟨hd1, hd2⟩ := hseed
  obtain ⟨hl1, hl2⟩ := hpl
  obtain ⟨most, hmo⟩ : ∃ most : Nat, r.most = most := Int.eq_ofNat_of_zero_le (by omega)
  have HMO := Lib.hid hmo
  rw [hmo] at hm1 hm2 ⊢
  obtain ⟨sd, hsd⟩ : ∃ sd, sd = r.seed := ⟨_, rfl⟩
  rw [← hsd] at hd1 hd2 ⊢
  have HSD := Lib.hid hsd
  have h0 := (h.alloc (.cells #[.int .i64 M.kind, .int .i64 M.vocab, .int .i64 M.width, .int .i64 M.top, v4, v5, v6, v7, v8, v9, v10] 35)).alloc (.cells #[.int .i64 r.id, .int .i64 r.deadline, .slice A n c, .int .i64 most, .int .i64 sd] 40)
  have hr0 := (hrp.alloc (.cells #[.int .i64 M.kind, .int .i64 M.vocab, .int .i64 M.width, .int .i64 M.top, v4, v5, v6, v7, v8, v9, v10] 35)).alloc (.cells #[.int .i64 r.id, .int .i64 r.deadline, .slice A n c, .int .i64 most, .int .i64 sd] 40)
  have k0 := (Blk.new w 35 #[.int .i64 M.kind, .int .i64 M.vocab, .int .i64 M.width, .int .i64 M.top, v4, v5, v6, v7, v8, v9, v10]).alloc (.cells #[.int .i64 r.id, .int .i64 r.deadline, .slice A n c, .int .i64 most, .int .i64 sd] 40)
  have l0 := Blk.new (w.alloc (.cells #[.int .i64 M.kind, .int .i64 M.vocab, .int .i64 M.width, .int .i64 M.top, v4, v5, v6, v7, v8, v9, v10] 35)) 40 #[.int .i64 r.id, .int .i64 r.deadline, .slice A n c, .int .i64 most, .int .i64 sd]
  have b0 : Below w.heap.size w ((w.alloc (.cells #[.int .i64 M.kind, .int .i64 M.vocab, .int .i64 M.width, .int .i64 M.top, v4, v5, v6, v7, v8, v9, v10] 35)).alloc (.cells #[.int .i64 r.id, .int .i64 r.deadline, .slice A n c, .int .i64 most, .int .i64 sd] 40)) := ((Below.refl _ _).alloc (Nat.le_refl _) _).alloc (by simp) _
  simp only [World.size_alloc] at l0
  have z0 := k0.lt
  have y0 := l0.lt
  clear h hrp hn htok hmo hsd
  go_enter Tryz.func15, Tryz.ntmps15
  go_wp2_with fail
  refine (check_ok _ T M v4 v5 v6 v7 v8 v9 v10 h0 hM).mono ?_
  rintro e w1 ⟨rfl, hb1⟩
  have h1 := h0.fresh hb1
  have hr1 := hr0.fresh hb1
  have k1 := k0.below hb1 z0
  have l1 := l0.below hb1 y0
  have b1 : Below w.heap.size w w1 := b0.trans (hb1.mono b0.size)
  have q1 := l1.cell
  have qm1 := k1.cell 1
  have HIN : Hid (inRange 0 ((M.vocab : Int) - 1) r.prompt) := Lib.hid (fun t ht => by have := HTOK.out t ht; omega)
  have HALL := Lib.hid (all_ok 0 ((M.vocab : Int) - 1) w1 _ A n c r.prompt hr1 (by omega) HIN.out)
  have H1 := Lib.hid h1
  have HR1 := Lib.hid hr1
  have K1 := Lib.hid k1
  have L1 := Lib.hid l1
  have B1 := Lib.hid b1
  clear hb1 h0 hr0 k0 l0 b0 h1 hr1 k1 l1 b1
  go_wp2_with (first
    | (go_at_call 33; refine (within_yes _ _ _ _ (by omega) (by omega)).mono ?_; rintro e w' ⟨rfl, rfl⟩)
    | (go_at_call 34; refine (isWordM_yes _ _ hd1 hd2).mono ?_; rintro e w' ⟨rfl, rfl⟩))
  refine HALL.out.mono ?_
  rintro e w2 ⟨rfl, hb2⟩
  have hz1 := K1.out.lt
  have hy1 := L1.out.lt
  have H2 := Lib.hid (H1.out.fresh hb2)
  have HR2 := Lib.hid (HR1.out.fresh hb2)
  have K2 := Lib.hid (K1.out.below hb2 hz1)
  have L2 := Lib.hid (L1.out.below hb2 hy1)
  have B2 := Lib.hid (B1.out.trans (hb2.mono B1.out.size))
  have q2 := L2.out.cell 2
  clear hb2 H1 HR1 K1 L1 B1 HALL q1 qm1 z0 y0 hz1 hy1
  have hz2 := K2.out.lt
  have hy2 := L2.out.lt
  obtain ⟨i0, hi0, hz0, hz1, hz2'⟩ := info_parts ints_info
  go_wp2_with fail
  go_loopw [7, 47] (fun v x wr => ∃ (k : Nat) (vs : List Value) (T2 : Nat → Prop), k ≤ n ∧ x = .int .i64 k ∧ Ents w2.heap.size wr T2 v vs ((entriesOf M r.prompt).take k) ∧ Below w2.heap.size w2 wr) (fun _ x _ => n - (intOf x).toNat)
  case atStart => exact ⟨0, [], fun _ => False, by omega, rfl, ⟨Own.nil_ _ _ _ _, Rows.nil_ _ _, by simp, fun _ _ => id, fun _ => False.elim⟩, Below.refl _ _⟩
  obtain ⟨k, vs, T2, hk, rfl, hen, hb⟩ := hrel
  have hwz := hb.size
  by_cases hlt : k < n
  · have h3 := H2.out.fresh hb
    obtain ⟨m0, m1, m2, m3, m4, m5, m6, m7, m8, m9, m10⟩ := mcells (K2.out.below hb hz2)
    have c2 := (L2.out.below hb hy2).cell 2
    obtain ⟨adT, u, rfl, -, -, hu, hcT⟩ := (HR2.out.fresh hb).at_ hlt
    have hel : k < r.prompt.length := by rw [← HN.out]; exact hlt
    rw [ints_get _ _ hel] at hu
    injection hu with hu
    subst hu
    have htok := HTOK.out _ (List.getElem_mem hel)
    have HTK := Lib.hid (entriesOf_take M r.prompt k hel)
    generalize r.prompt[k] = t at *
    obtain ⟨t, rfl⟩ := Int.eq_ofNat_of_zero_le htok.1
    have htv : t < M.vocab := by omega
    have HEN := Lib.hid hen
    have HB := Lib.hid hb
    have HCALL := Lib.hid (entry_any wr _ M _ _ _ _ _ _ _ h3 hM t k htv (by omega))
    have hlen : ((entriesOf M r.prompt).take k).length = k := by rw [List.length_take, entriesOf_length, ← HN.out]; omega
    have HLEN := Lib.hid hlen
    have ho := hen.own
    rw [hlen] at ho
    have HO := Lib.hid ho
    clear hel htok hen hb h3 hlen ho
    go_wp2_with fail
    refine HCALL.out.mono ?_
    rintro e w3 ⟨v, rfl, hfr, hb3⟩
    have hslc := hfr.slc
    obtain ⟨Av, cv, rfl, -, -⟩ := hfr.shape
    have ho3 := HO.out.fresh hb3
    have HB3 := Lib.hid hb3
    have hz3' := hb3.size
    have HSLC := Lib.hid hslc
    generalize (M.entry t k).length = le at *
    clear hfr hslc hb3
    go_wp2_with (first | (at_builtin; go_must (refine wpList_append_any _ rfl _ _ 72 rfl 22 i0 _ 1 24 Tryz.underlying72 hi0 hz0 hz1 hz2' rfl (by omega) u7 _ _ rfl (ho3.alloc _) _ 1 1 _ rfl (own_lit _ (fun _ => True) _ [_] 1 (by decide) rfl trivial).reads (by intro u hu; simp at hu; subst hu; rfl) (by unfold maxLen; omega) (by omega) ?_); intro v' w4 happ))
    go_roundw
    case rel =>
      have hap := happ
      rw [show k + 1 = ((entriesOf M r.prompt).take k).length + 1 by rw [HLEN.out]] at hap
      obtain ⟨p1, p2, p3, p4⟩ := HEN.out.push hwz HB3.out HSLC.out hap
      refine ⟨k + 1, _, _, by omega, by go_num, by rw [HTK.out]; exact p1, HB.out.trans p3⟩
    case measure => simp [intOf]; omega
  · obtain rfl : n = k := by omega
    rw [List.take_of_length_le (by rw [entriesOf_length, ← HN.out]; exact Nat.le_refl _)] at hen
    have h3 := H2.out.fresh hb
    have c3 := (L2.out.below hb hy2).cell 3
    have HBASE := Lib.hid B2.out.size
    have B3 := Lib.hid (B2.out.trans (hb.mono B2.out.size))
    have H3 := Lib.hid h3
    have K3 := Lib.hid (K2.out.below hb hz2)
    have L3 := Lib.hid (L2.out.below hb hy2)
    have HEN := Lib.hid hen
    have HWZ := Lib.hid hwz
    have hz3 := K3.out.lt
    have hy3 := L3.out.lt
    clear hen hb h3 B2 H2 K2 L2 HR2 hwz
    obtain ⟨j0, hj0, jz0, jz1, jz2⟩ := info_parts int_info
    go_wp2_with fail
    obtain ⟨w3, rfl⟩ : ∃ w3 : World, w3 = wr := ⟨_, rfl⟩
    go_loopw [7, 10, 62] (fun v vo x wr => ∃ (k : Nat) (vs : List Value) (T2 : Nat → Prop), (k : Int) ≤ most ∧ x = .int .i64 k ∧ Ents w2.heap.size wr T2 v vs (entriesOf M (r.prompt ++ gen M r.seed r.prompt k)) ∧ Own wr (fun g => w3.heap.size ≤ g) 3 1 vo k (ints (gen M r.seed r.prompt k)) ∧ (∀ g, vo.ownBlock = some g → ¬ T2 g) ∧ (∀ j, j < k → ¬ stopA M r.seed r.prompt r.most j) ∧ Below w2.heap.size w3 wr) (fun _ _ x _ => most - (intOf x).toNat)
    case atStart => exact ⟨0, vs, T2, by omega, rfl, by rw [show r.prompt ++ gen M r.seed r.prompt 0 = r.prompt from List.append_nil _]; exact HEN.out, Own.nil_ _ _ _ _, fun g h => by simp [Value.ownBlock] at h, fun j h => absurd h (by omega), Below.refl _ _⟩
    obtain ⟨k, vs, T2, hk, rfl, hen, ho, hno, hns, hb⟩ := hrel
    have hwz := hb.size
    have hklt : (k : Int) < most := by
      rcases Int.lt_or_le (k : Int) most with h | h
      · exact h
      · have hk1 : 1 ≤ k := by omega
        exact absurd (Or.inr (by rw [HMO.out]; omega)) (hns (k - 1) (by omega))
    have hlen : (entriesOf M (r.prompt ++ gen M r.seed r.prompt k)).length = n + k := by rw [entriesOf_length, List.length_append, gen_length, ← HN.out]
    obtain ⟨m0, m1, m2, m3, m4, m5, m6, m7, m8, m9, m10⟩ := mcells (K3.out.below hb hz2)
    have e4 : wr.cell? ⟨w.heap.size + 1, 4, none⟩ = some (.int .i64 sd) := (L3.out.below hb hy2).cell 4
    have e3 : wr.cell? ⟨w.heap.size + 1, 3, none⟩ = some (.int .i64 most) := (L3.out.below hb hy2).cell 3
    have hms : MSl wr T M v4 v5 v6 v7 v8 v9 v10 := H3.out.keeps (S := fun g => w2.heap.size ≤ g) ⟨hb.os, hb.tape, hb.output, hb.size, fun g _ h => hb.block g (Nat.lt_of_not_le h)⟩ (fun i hi => by have := HT.out; rw [← this] at hi; have := HBASE.out; omega)
    have hrd := hen.own
    rw [hlen] at hrd
    obtain ⟨E, ce, rfl, -, -⟩ := hrd.shape
    have hrds := hrd.reads
    rw [← hlen] at hrds
    have HD := Lib.hid (drawF_range r.seed k)
    have hN := fun (w' : World) (hw : Below wr.heap.size wr w') => next_any' w' _ _ _ M v4 v5 v6 v7 v8 v9 v10 (hms.fresh hw) hM E ce vs (entriesOf M (r.prompt ++ gen M r.seed r.prompt k)) (hrds.fresh hw) (hen.rows.fresh hw) (entriesOf_good M hM _ (fun t ht => by rcases List.mem_append.1 ht with h | h; exact HTOK.out t h; exact gen_in M hM r.seed r.prompt k t h)) (by rw [hlen]; omega) (by rw [hlen]; omega) (drawF r.seed k) HD.out
    rw [hlen] at hN
    have HNXT := Lib.hid hN
    have HTK : Hid (tokA M r.seed r.prompt k = (M.next (entriesOf M (r.prompt ++ gen M r.seed r.prompt k)) (drawF r.seed k) : Nat)) := Lib.hid rfl
    have HDR := Lib.hid (fun w' => draw_any r.seed k w')
    have HTV := Lib.hid (tokA_in M hM r.seed r.prompt k)
    have HLEN := Lib.hid hlen
    have HEN2 := Lib.hid hen
    have HO := Lib.hid ho
    have HNO := Lib.hid hno
    have HNS := Lib.hid hns
    have HB := Lib.hid hb
    have HMS := Lib.hid hms
    have HRD := Lib.hid hrd
    generalize drawF r.seed k = d at *
    rw [← HSD.out] at HDR
    generalize M.next (entriesOf M (r.prompt ++ gen M r.seed r.prompt k)) d = tk at *
    rw [HTK.out] at HTV
    clear hN hlen hrds hen ho hno hns hb hms hrd
    have zq : w.heap.size < wr.heap.size := by omega
    have zr : w.heap.size + 1 < wr.heap.size := by omega
    go_wp2_with fail
    go_region_held3 (fun w' => w'.cell? ⟨w.heap.size, 0, none⟩ = some (.int .i64 M.kind) ∧ w'.cell? ⟨w.heap.size, 1, none⟩ = some (.int .i64 M.vocab) ∧ w'.cell? ⟨w.heap.size, 2, none⟩ = some (.int .i64 M.width) ∧ w'.cell? ⟨w.heap.size, 3, none⟩ = some (.int .i64 M.top) ∧ w'.cell? ⟨w.heap.size, 4, none⟩ = some v4 ∧ w'.cell? ⟨w.heap.size, 5, none⟩ = some v5 ∧ w'.cell? ⟨w.heap.size, 6, none⟩ = some v6 ∧ w'.cell? ⟨w.heap.size, 7, none⟩ = some v7 ∧ w'.cell? ⟨w.heap.size, 8, none⟩ = some v8 ∧ w'.cell? ⟨w.heap.size, 9, none⟩ = some v9 ∧ w'.cell? ⟨w.heap.size, 10, none⟩ = some v10 ∧
        w'.cell? ⟨w.heap.size + 1, 4, none⟩ = some (.int .i64 sd)) (first | go_keep | exact ⟨(bc _ _ zq).trans m0, (bc _ _ zq).trans m1, (bc _ _ zq).trans m2, (bc _ _ zq).trans m3, (bc _ _ zq).trans m4, (bc _ _ zq).trans m5, (bc _ _ zq).trans m6, (bc _ _ zq).trans m7, (bc _ _ zq).trans m8, (bc _ _ zq).trans m9, (bc _ _ zq).trans m10, (bc _ _ zr).trans e4⟩) ((first
      | (go_at_call 38; refine (HDR.out _).mono ?_; rintro e w' ⟨rfl, rfl⟩)
      | (go_at_call 37; refine (HNXT.out _ (Below.refl _ _).drew).mono ?_; rintro e w5 ⟨rfl, hb5⟩; have bc := (bcell hb5).1)))
    have hb5w : Below wr.heap.size wr w5 := hb5.drewed
    have kq5 := (K3.out.below HB.out hz2).below hb5w zq
    have lq5 := (L3.out.below HB.out hy2).below hb5w zr
    have ho5 := HO.out.fresh hb5w
    have hz5 : wr.heap.size ≤ w5.heap.size := hb5w.size
    have zq5 := kq5.lt
    have zr5 := lq5.lt
    have hneq : u10.ownBlock ≠ some w.heap.size := fun e => by have := HO.out.2 _ e; omega
    have hner : u10.ownBlock ≠ some (w.heap.size + 1) := fun e => by have := HO.out.2 _ e; omega
    have HKQ : Hid (∀ (w6 : World) (o : Obj), (w5.alloc o).grownBy w6 u10.ownBlock → Blk w6 w.heap.size 35 #[.int .i64 M.kind, .int .i64 M.vocab, .int .i64 M.width, .int .i64 M.top, v4, v5, v6, v7, v8, v9, v10] ∧ Blk w6 (w.heap.size + 1) 40 #[.int .i64 r.id, .int .i64 r.deadline, .slice A n c, .int .i64 most, .int .i64 sd]) :=
      Lib.hid fun w6 o hg => ⟨(kq5.alloc o).grown hg (fun e => hneq e.symm), (lq5.alloc o).grown hg (fun e => hner e.symm)⟩
    have hbw5 : Below w.heap.size w w5 := B3.out.trans ((HB.out.mono HBASE.out).trans (hb5w.mono (by omega)))
    have HFIN : Hid (∀ (v' : Value) (w6 : World) (o : Obj), Appended (w5.alloc o) w6 (fun g => w3.heap.size ≤ g) 3 1 u10 v' (k + 1) (ints (gen M r.seed r.prompt k) ++ ints [(tk : Int)]) → Own w6 (fun g => w3.heap.size ≤ g) 3 1 v' (k + 1) (ints (gen M r.seed r.prompt (k + 1))) ∧ Keeps (fun g => u10.ownBlock = some g) w5 w6 ∧ Below w.heap.size w w6 ∧ Below w3.heap.size w5 w6) := by
      refine Lib.hid fun v' w6 o happ => ?_
      have hge : ∀ g, u10.ownBlock = some g → w3.heap.size ≤ g := fun g e => HO.out.2 g e
      have hK : Keeps (fun g => u10.ownBlock = some g) w5 w6 := ((Keeps.refl _ w5).alloc o).tr ((Keeps.refl _ _).grown happ.2.1 (fun k e _ => e))
      have hB3 : Below w3.heap.size w5 w6 := ⟨hK.os, hK.tape, hK.output, hK.size, fun g hg => hK.block g (by omega) (fun e => by have := hge g e; omega)⟩
      refine ⟨?_, hK, hbw5.trans (hB3.mono (by omega)), hB3⟩
      rw [gen_succ, HTK.out, show ints (gen M r.seed r.prompt k ++ [(tk : Int)]) = ints (gen M r.seed r.prompt k) ++ ints [(tk : Int)] by simp [ints]]
      refine happ.1.more fun g _ e => ?_
      rcases e with e | e
      · exact e
      · subst e; simp; omega
    have HSTOP : Hid (stopA M r.seed r.prompt r.most k ↔ (tk = 0 ∨ (k : Int) + 1 = most)) := by
      refine Lib.hid ?_
      unfold stopA
      rw [HTK.out, HMO.out]
      omega
    have HB5 := Lib.hid hb5w
    have HNE := Lib.hid hneq
    clear m0 m1 m2 m3 m4 m5 m6 m7 m8 m9 m10 e4 e3 bc hb5 hb5w kq5 lq5 hneq hner HDR HNXT hbw5
    have hkn : k ≤ 32 := by omega
    by_cases ht0 : tk = 0
    · have hz : (((tk : Nat) : Int) == 0) = true := by simp [ht0]
      have HT0 := Lib.hid ht0
      clear ht0
      go_wp2_with (first | (at_builtin; go_must (refine wpList_append_any _ rfl _ _ 22 rfl 3 j0 _ 1 8 Tryz.underlying22 hj0 jz0 jz1 jz2 rfl (by omega) u10 _ _ rfl (ho5.alloc _) _ 1 1 _ rfl (reads_new _ _ [(tk : Int)] 1 rfl) (ints_one _) (by unfold maxLen; omega) (by omega) ?_); intro v' w6 happ; obtain ⟨kq6, lq6⟩ := HKQ.out _ _ happ.2.1; obtain ⟨m0, m1, m2, m3, m4, m5, m6, m7, m8, m9, m10⟩ := mcells kq6; have e3 := lq6.cell 3))
      go_ret2
      obtain ⟨f1, f2, f3, -⟩ := HFIN.out _ _ _ happ
      rw [HSD.out, ← HMO.out]
      exact ⟨v', k + 1, rfl, IsAlone.at_ (HSTOP.out.2 (Or.inl HT0.out)) HNS.out, f1.more (fun g _ h => Nat.le_trans B3.out.size h), f3⟩
    by_cases hmm : (k : Int) + 1 = most
    · have hz : (((tk : Nat) : Int) == 0) = false := by simp; omega
      have hz2 : ((k : Int) + 1 == (most : Int)) = true := by simpa using hmm
      have HMM := Lib.hid hmm
      clear ht0 hmm
      go_wp2_with (first | (at_builtin; go_must (refine wpList_append_any _ rfl _ _ 22 rfl 3 j0 _ 1 8 Tryz.underlying22 hj0 jz0 jz1 jz2 rfl (by omega) u10 _ _ rfl (ho5.alloc _) _ 1 1 _ rfl (reads_new _ _ [(tk : Int)] 1 rfl) (ints_one _) (by unfold maxLen; omega) (by omega) ?_); intro v' w6 happ; obtain ⟨kq6, lq6⟩ := HKQ.out _ _ happ.2.1; obtain ⟨m0, m1, m2, m3, m4, m5, m6, m7, m8, m9, m10⟩ := mcells kq6; have e3 := lq6.cell 3))
      go_ret2
      obtain ⟨f1, f2, f3, -⟩ := HFIN.out _ _ _ happ
      rw [HSD.out, ← HMO.out]
      exact ⟨v', k + 1, rfl, IsAlone.at_ (HSTOP.out.2 (Or.inr HMM.out)) HNS.out, f1.more (fun g _ h => Nat.le_trans B3.out.size h), f3⟩
    · have hz : (((tk : Nat) : Int) == 0) = false := by simp; omega
      have hz2 : ((k : Int) + 1 == (most : Int)) = false := by simpa using hmm
      have HMM : Hid (¬ stopA M r.seed r.prompt r.most k) := Lib.hid (fun h => by rcases HSTOP.out.1 h with h | h; exact ht0 h; exact hmm h)
      clear ht0 hmm
      go_wp2_with (first | (at_builtin; go_must (refine wpList_append_any _ rfl _ _ 22 rfl 3 j0 _ 1 8 Tryz.underlying22 hj0 jz0 jz1 jz2 rfl (by omega) u10 _ _ rfl (ho5.alloc _) _ 1 1 _ rfl (reads_new _ _ [(tk : Int)] 1 rfl) (ints_one _) (by unfold maxLen; omega) (by omega) ?_); intro v' w6 happ; obtain ⟨kq6, lq6⟩ := HKQ.out _ _ happ.2.1; obtain ⟨m0, m1, m2, m3, m4, m5, m6, m7, m8, m9, m10⟩ := mcells kq6; have e3 := lq6.cell 3))
      obtain ⟨f1, f2, f3, f4⟩ := HFIN.out _ _ _ happ
      have hap2 := happ.2.2
      have hbl : ∀ g, (Value.slice E (n + k) ce).ownBlock = some g → u10.ownBlock ≠ some g := fun g e => HRD.out.ne_own HO.out (by decide) e
      have hen6 : Ents w2.heap.size w6 T2 (.slice E (n + k) ce) vs (entriesOf M (r.prompt ++ gen M r.seed r.prompt k)) := (HEN2.out.fresh HB5.out).keeps f2 hbl (fun g hT e => HNO.out g e hT)
      have hms6 := (HMS.out.fresh HB5.out).keeps (S := fun g => w3.heap.size ≤ g) ⟨f4.os, f4.tape, f4.output, f4.size, fun g _ h => f4.block g (Nat.lt_of_not_le h)⟩ (fun i hi => by have := HT.out; rw [← this] at hi; omega)
      have htv : tk < M.vocab := by have := HTV.out; omega
      have HCALL := Lib.hid (entry_any w6 _ M _ _ _ _ _ _ _ hms6 hM tk (n + k) htv (by omega))
      have hz6 : w5.heap.size ≤ w6.heap.size := f2.size
      have ho6 := hen6.own
      rw [HLEN.out] at ho6
      have HO6 := Lib.hid ho6
      have HEN6 := Lib.hid hen6
      have F1 := Lib.hid f1
      have F4 := Lib.hid f4
      have HAP2 := Lib.hid hap2
      clear ho6 hen6 hms6 f1 f2 f3 f4 hap2 happ hbl htv
      have hc : ((n : Int) + k) = ((n + k : Nat) : Int) := by omega
      rw [hc]
      refine HCALL.out.mono ?_
      rintro e w7 ⟨v, rfl, hfr, hb7⟩
      have hslc := hfr.slc
      obtain ⟨Av, cv, rfl, -, -⟩ := hfr.shape
      have ho7 := HO6.out.fresh hb7
      have HB7 := Lib.hid hb7
      have HSLC := Lib.hid hslc
      have hz7 : w6.heap.size ≤ w7.heap.size := hb7.size
      generalize (M.entry tk (n + k)).length = le at *
      clear hfr hslc hb7 hc
      go_wp2_with (first | (at_builtin; go_must (refine wpList_append_any _ rfl _ _ 72 rfl 22 i0 _ 1 24 Tryz.underlying72 hi0 hz0 hz1 hz2' rfl (by omega) (.slice E (n + k) ce) _ _ rfl (ho7.alloc _) _ 1 1 _ rfl (own_lit _ (fun _ => True) _ [_] 1 (by decide) rfl trivial).reads (by intro u hu; simp at hu; subst hu; rfl) (by unfold maxLen; omega) (by omega) ?_); intro v2 w8 happ))
      go_roundw
      case rel =>
        have hw23 := HWZ.out
        have hap := happ
        rw [show n + k + 1 = (entriesOf M (r.prompt ++ gen M r.seed r.prompt k)).length + 1 by rw [HLEN.out]] at hap
        obtain ⟨p1, p2, p3, p4⟩ := HEN6.out.push (by omega) HB7.out HSLC.out hap
        have hes : entriesOf M (r.prompt ++ gen M r.seed r.prompt k) ++ [M.entry tk (n + k)] = entriesOf M (r.prompt ++ gen M r.seed r.prompt (k + 1)) := by
          rw [gen_succ, ← List.append_assoc, entriesOf_snoc, HTK.out, List.length_append, gen_length, ← HN.out]
          rfl
        rw [hes] at p1
        refine ⟨k + 1, _, _, by omega, by go_num, p1, ?_, ?_, ?_, ?_⟩
        · exact F1.out.keeps' p2 fun g e e' => HO6.out.ne_own F1.out (by decide) e' e
        · intro g hg hT
          have hlt := F1.out.lt hg
          rcases hT with hT | hT
          · rcases HAP2.out with e | e
            · rw [e] at hg; exact HNO.out g hg hT
            · rw [e] at hg
              injection hg with hg
              have := HEN2.out.t2 g hT
              simp at hg
              omega
          · omega
        · intro j hj
          by_cases e : j = k
          · subst e; exact HMM.out
          · exact HNS.out j (by omega)
        · exact (HB.out.trans (HB5.out.mono (by omega))).trans (((F4.out.mono (by omega))).trans p3)
      case measure => simp [intOf]; omega
end Go.Proofs.YtempdomhbfokmaaGreatDoor

namespace Go.Proofs.YtempdomhbfokmaaGreatDoor
open Go.RowKit

theorem gen_get (M : Model) (seed : Int) (p : List Int) (k j : Nat) (h : j < k) : (gen M seed p k)[j]? = some (tokA M seed p j) := by
  induction k with
  | zero => omega
  | succ k ih =>
    rw [gen_succ]
    by_cases e : j < k
    · rw [List.getElem?_append_left (by rw [gen_length]; exact e)]; exact ih e
    · obtain rfl : j = k := by omega
      rw [List.getElem?_append_right (by rw [gen_length]; exact Nat.le_refl _), gen_length, Nat.sub_self]
      rfl
theorem gen_take (M : Model) (seed : Int) (p : List Int) (k j : Nat) (h : j ≤ k) : (gen M seed p k).take j = gen M seed p j := by
  apply List.ext_getElem?
  intro i
  rw [List.getElem?_take]
  by_cases e : i < j
  · rw [if_pos e, gen_get _ _ _ _ _ (by omega), gen_get _ _ _ _ _ e]
  · rw [if_neg e, List.getElem?_eq_none (by rw [gen_length]; omega)]
theorem IsAlone.le_most {M : Model} {seed : Int} {p : List Int} {most : Int} {K : Nat} (h : IsAlone M seed p most K) (hm : 1 ≤ most) : (K : Int) ≤ most := by
  rcases Int.lt_or_le most (K : Int) with e | e
  · obtain ⟨m, rfl⟩ := Int.eq_ofNat_of_zero_le (show 0 ≤ most by omega)
    have hm' : m < K := by omega
    exact absurd (show stopA M seed p (m : Int) (m - 1) from Or.inr (by omega)) (h.first (m - 1) (by omega))
  · exact e
/-- the shorter answer is the head of the longer one -/
theorem IsAlone.shorter {M : Model} {seed : Int} {p : List Int} {most most2 : Int} {K L : Nat} (h : IsAlone M seed p most K) (h2 : IsAlone M seed p most2 L) (hm : 1 ≤ most2) (hle : most2 ≤ most) : (L : Int) = min (K : Int) most2 := by
  have hK := h.one
  have hL := h2.one
  have hKm := h.le_most (by omega)
  have hLm := h2.le_most hm
  obtain ⟨m, rfl⟩ := Int.eq_ofNat_of_zero_le (show 0 ≤ most2 by omega)
  by_cases e : K ≤ m
  · have hs : stopA M seed p (m : Int) (K - 1) := by
      rcases h.stop with h1 | h1
      · exact Or.inl h1
      · exact Or.inr (by omega)
    have hf : ∀ j, j < K - 1 → ¬ stopA M seed p (m : Int) j := by
      rintro j hj (h1 | h1)
      · exact h.first j hj (Or.inl h1)
      · omega
    have := IsAlone.unique h2 ⟨hK, hs, hf⟩
    omega
  · have hf : ∀ j, j < m - 1 → ¬ stopA M seed p (m : Int) j := by
      rintro j hj (h1 | h1)
      · exact h.first j (by omega) (Or.inl h1)
      · omega
    have := IsAlone.unique h2 (K := L) (L := m) ⟨by omega, Or.inr (by omega), hf⟩
    omega
theorem IsAlone.no_zero {M : Model} {seed : Int} {p : List Int} {most : Int} {K : Nat} (h : IsAlone M seed p most K) : ∀ x ∈ gen M seed p (K - 1), x ≠ 0 := by
  intro x hx e
  obtain ⟨j, hj, rfl⟩ := List.mem_iff_getElem.1 hx
  have hj' : j < K - 1 := by rwa [gen_length] at hj
  have := gen_get M seed p (K - 1) j hj'
  rw [List.getElem?_eq_getElem hj] at this
  injection this with this
  exact h.first j hj' (Or.inl (by rw [← this]; exact e))
theorem IsAlone.ends {M : Model} {seed : Int} {p : List Int} {most : Int} {K : Nat} (h : IsAlone M seed p most K) : (K : Int) = most ∨ tokA M seed p (K - 1) = 0 := by
  have hK := h.one
  rcases h.stop with h1 | h1
  · exact Or.inr h1
  · exact Or.inl (by omega)
end Go.Proofs.YtempdomhbfokmaaGreatDoor

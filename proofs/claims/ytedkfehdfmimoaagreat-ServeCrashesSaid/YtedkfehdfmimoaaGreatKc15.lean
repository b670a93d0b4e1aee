/- scores, next, Next, Entry: of a model with attention. The next token: its weights are not all zero. length, isWord, entriesOK, drawOK, next, Next, Entry (of a model with attention). -/
import Derived.Test.YtedkfehdfmimoaaGreatKc14
namespace Go.Proofs.YtedkfehdfmimoaaGreat
open Go.RowKit

def Model.scores (m : Model) (es : List (List Int)) : List Int := (List.range m.vocab).map fun v => dotF (rowF m.out v m.width) (m.attend es)
theorem Model.attH_length (m : Model) (es : List (List Int)) (h : ∀ e ∈ es, e.length = 3 * m.width) : (m.attH es).length = m.width := by
  have e4 : m.mixTo es es.length = m.attH es := by unfold Model.mixTo Model.attH; rw [List.take_of_length_le (by simp [Model.atts])]
  rw [← e4]
  exact m.mixTo_length es h _
theorem Model.attend_length (m : Model) (es : List (List Int)) (h : ∀ e ∈ es, e.length = 3 * m.width) : (m.attend es).length = m.width := by
  unfold Model.attend
  rw [List.length_map, m.attH_length es h]
theorem Model.attend_word (m : Model) (hM : m.Ok) (es : List (List Int)) : inRange (-2147483648) 2147483647 (m.attend es) := by
  intro z hz
  obtain ⟨x, hx, rfl⟩ := List.mem_map.1 hz
  have hc : 2 < m.cuts.length := by have := hM.lcuts; omega
  have := hM.cuts _ (List.getElem_mem hc)
  have e : m.cuts[2] = m.cut 2 := by simp [Model.cut, List.getD, hc]
  rw [e] at this
  exact shiftF_word _ _ this.1 this.2 (m.attH_word es x hx)
theorem Model.scores_word (m : Model) (es : List (List Int)) : inRange (-2147483648) 2147483647 (m.scores es) := by
  intro z hz
  obtain ⟨x, hx, rfl⟩ := List.mem_map.1 hz
  exact dotF_word _ _

set_option maxRecDepth 100000 in
set_option maxHeartbeats 2000000 in
theorem scores_any (w : World) (T T' T2 : Nat → Prop) (M : Model) (v4 v5 v6 v7 v8 v9 v10 : Value) (h : MSl w T M v4 v5 v6 v7 v8 v9 v10) (hM : M.Ok) (hkind : M.kind = 1)
    (E : Option Addr) (ce : Nat) (vs : List Value) (es : List (List Int)) (hE : Reads w T' 1 E es.length vs) (hR : Rows w T2 vs es) (hes : goodEntries M es) (hn1 : 1 ≤ es.length) (hn2 : es.length ≤ 64) :
    Calls Tryz.prog 84 #[.agg #[.int .i64 M.kind, .int .i64 M.vocab, .int .i64 M.width, .int .i64 M.top, v4, v5, v6, v7, v8, v9, v10], .slice E es.length ce] w (RetFresh w 3 1 M.vocab (ints (M.scores es))) := by
  obtain ⟨i0, hi, hz0, hz1, hz2⟩ := info_parts int_info
  obtain ⟨hw1, hw2⟩ := hM.width
  obtain ⟨hv1, hv2⟩ := hM.vocab
  replace h := h.old
  replace hR := hR.old
  replace hE := hE.old
  clear T T' T2
  have hlen : ∀ e ∈ es, e.length = 3 * M.width := fun e he => by have := (hes e he).1; unfold Model.len at this; rw [if_pos hkind] at this; exact this
  have hal := M.attend_length es hlen
  have haw := M.attend_word hM es
  have hol := hM.lout
  have HAL := Lib.hid hal
  have HOL := Lib.hid hol
  have hb5 := mul_bounds _ _ _ _ hv2 hw2
  have hat := attend_any _ _ _ _ M v4 v5 v6 v7 v8 v9 v10 (h.alloc (.cells #[.int .i64 M.kind, .int .i64 M.vocab, .int .i64 M.width, .int .i64 M.top, v4, v5, v6, v7, v8, v9, v10] 27)) hM hkind E ce vs es (hE.alloc _) (hR.alloc _) hes hn1 hn2
  have HAT := Lib.hid hat
  have hk1 : (M.kind == 1) = true := by simpa using hkind
  have HK := Lib.hid hkind
  clear hat hlen hal hol hkind
  go_enter Tryz.func84, Tryz.ntmps84
  go_wp2_with fail
  refine HAT.out.mono ?_
  rintro e w1 ⟨va, rfl, hown, hb1⟩
  have h1 := (h.alloc _).fresh hb1
  have k1 := (Blk.new w 27 _).below hb1 (by simp)
  have b1 : Below w.heap.size w w1 := ((Below.refl _ _).alloc (Nat.le_refl _) _).trans (hb1.mono (by simp))
  have hat : Slc w1 (fun g => w.heap.size ≤ g) va (M.attend es) := (hown.slc).more fun g _ hg => by simp at hg; omega
  clear hb1 h hE hR HAT hown
  have z1 := k1.lt
  have q1 := k1.cell
  go_wp2_with fail
  go_loopw [6, 25] (fun v i wr => ∃ k : Nat, k ≤ M.vocab ∧ i = .int .i64 k ∧ Own wr (fun g => w1.heap.size ≤ g) 3 1 v k (ints ((List.range k).map fun v => dotF (rowF M.out v M.width) (M.attend es))) ∧ Below w1.heap.size w1 wr) (fun _ i _ => M.vocab - (intOf i).toNat)
  case atStart => exact ⟨0, by omega, rfl, by simpa [ints] using Own.nil_ w1 (fun g => w1.heap.size ≤ g) 3 1, Below.refl _ _⟩
  obtain ⟨k, hk, rfl, ho, hb⟩ := hrel
  by_cases hlt : k < M.vocab
  · have hkr : (k + 1) * M.width ≤ M.out.length := by rw [HOL.out]; exact Nat.mul_le_mul_right _ hlt
    have hrl := rowF_length _ _ _ hkr
    have hrw : inRange (-4294967296) 4294967296 (rowF M.out k M.width) := fun z hz => by have := hM.out z (List.mem_of_mem_drop (List.mem_of_mem_take hz)); omega
    have hmr := h1.fresh hb
    have har := hat.fresh hb
    have kr := (k1.below hb z1).cell
    have HRL := Lib.hid hrl
    clear hrl
    go_wp2_with fail
    refine (row_any _ _ _ M.out k M.width hmr.out hkr (by rw [HOL.out]; omega) (by omega) (by omega)).mono ?_
    rintro e w' ⟨rfl, rfl⟩
    go_wp2_with fail
    refine (dot_any _ _ _ _ _ _ _ (hmr.out.row k M.width hkr) har (by rw [HRL.out, HAL.out]) hrw haw).mono ?_
    rintro e w' ⟨rfl, nd, rfl⟩
    go_wp2_with (at_builtin; refine wpList_append_any _ rfl _ _ 22 rfl 3 i0 _ 1 8 Tryz.underlying22 hi hz0 hz1 hz2 rfl (by omega) u6 _ _ rfl ((ho.drewN nd).alloc _) _ 1 1 _ rfl (reads_new _ _ [_] 1 rfl) (ints_one _) (by unfold maxLen; omega) (by omega) ?_; intro v' w' happ)
    go_roundw
    case rel =>
      have hg := grown_after (wr := wr) (W1 := wr) (n := nd) (Below.refl _ _) happ.2.1
      refine ⟨k + 1, by omega, by go_num, ?_, ⟨hg.os.trans hb.os, hg.tape.trans hb.tape, hg.output.trans hb.output, Nat.le_trans hb.size hg.size, fun q hq => (hg.block q (Nat.lt_of_lt_of_le hq hb.size) (fun e => by have := ho.2 _ e.symm; simp at this; omega)).trans (hb.block q hq)⟩⟩
      have hwz := hb.size
      have := happ.1.more (T' := fun g => w1.heap.size ≤ g) fun g _ hg => by
        rcases hg with hg | hg
        · exact hg
        · simp at hg; omega
      rw [range_map_succ]
      simpa [ints] using this
    case measure => simp [intOf]; omega
  · obtain rfl : k = M.vocab := by omega
    go_wp2_with fail
    go_ret
    exact ⟨_, rfl, ho.more fun g _ hg => by omega, b1.trans (hb.mono (by omega))⟩
end Go.Proofs.YtedkfehdfmimoaaGreat

namespace Go.Proofs.YtedkfehdfmimoaaGreat
open Go.RowKit

theorem isum_pos (l : List Int) (m : Int) (h : inRange 0 m l) (j : Nat) (y : Int) (hj : l[j]? = some y) (hy : 0 < y) : 0 < isum l := by
  induction l generalizing j with
  | nil => simp at hj
  | cons x l ih =>
    rw [isum_cons]
    have h0 := h x (by simp)
    have h1 := isum_bounds l m fun z hz => h z (by simp [hz])
    match j, hj with
    | 0, hj => simp at hj; omega
    | j + 1, hj =>
      have := ih (fun z hz => h z (by simp [hz])) j (by simpa using hj)
      omega
def setAll (g : Nat → Int) (l : List Int) (o : List Int) : List Int := l.foldl (fun out v => out.set v.toNat (g v.toNat)) o
theorem setAll_range (g : Nat → Int) (a b : Int) (hg : ∀ k, a ≤ g k ∧ g k ≤ b) (l : List Int) : ∀ o : List Int, inRange a b o → inRange a b (setAll g l o) := by
  induction l with
  | nil => exact fun o h => h
  | cons x l ih =>
    intro o h
    refine ih _ fun z hz => ?_
    rcases List.mem_or_eq_of_mem_set hz with h1 | h1
    · exact h z h1
    · subst h1; exact hg _
theorem setAll_stay (g : Nat → Int) (l : List Int) (j : Nat) : ∀ o : List Int, o[j]? = some (g j) → (setAll g l o)[j]? = some (g j) := by
  induction l with
  | nil => exact fun o h => h
  | cons x l ih =>
    intro o h
    refine ih _ ?_
    by_cases e : x.toNat = j
    · subst e
      have : x.toNat < o.length := by
        rcases Nat.lt_or_ge x.toNat o.length with h1 | h1
        · exact h1
        · rw [List.getElem?_eq_none h1] at h; simp at h
      simp [List.getElem?_set, this]
    · rw [List.getElem?_set_ne e]; exact h
theorem Model.weights_length (m : Model) (s : List Int) : (m.weights s).length = m.vocab := by
  have := m.wTo_length s (rankF s m.top).length
  unfold Model.wTo at this
  rwa [List.take_of_length_le (Nat.le_refl _)] at this
def Model.wAt (m : Model) (s : List Int) (v : Nat) : Int := m.odds.getD (min ((maxF s - s.getD v 0) / 2 ^ (m.cut 3).toNat).toNat (m.odds.length - 1)) 0
theorem Model.weights_eq (m : Model) (s : List Int) : m.weights s = setAll (m.wAt s) (rankF s m.top) (List.replicate m.vocab 0) := rfl
theorem Model.wAt_range (m : Model) (hM : m.Ok) (s : List Int) (v : Nat) : 0 ≤ m.wAt s v ∧ m.wAt s v ≤ 1000 := by
  unfold Model.wAt
  have h := hM.lodds
  have : min ((maxF s - s.getD v 0) / 2 ^ (m.cut 3).toNat).toNat (m.odds.length - 1) < m.odds.length := by omega
  generalize min ((maxF s - s.getD v 0) / 2 ^ (m.cut 3).toNat).toNat (m.odds.length - 1) = k at this
  have e : m.odds.getD k 0 = m.odds[k] := by simp [List.getD, this]
  rw [e]
  exact hM.odds _ (List.getElem_mem this)
theorem Model.weights_range (m : Model) (hM : m.Ok) (s : List Int) : inRange 0 1000 (m.weights s) := by
  rw [m.weights_eq]
  refine setAll_range _ 0 1000 (m.wAt_range hM s) _ _ fun z hz => ?_
  rw [List.mem_replicate] at hz
  omega
theorem rankCmp_asym (l : List Int) (a b : Int) : decide (rankCmp l a b < 0) = true → decide (rankCmp l b a < 0) = false := by
  unfold rankCmp cmpI
  simp only [decide_eq_true_eq, decide_eq_false_iff_not]
  split <;> split <;> (try split) <;> (try split) <;> omega
theorem rankCmp_ntr (l : List Int) (a b c : Int) : decide (rankCmp l b a < 0) = false → decide (rankCmp l c b < 0) = false → decide (rankCmp l c a < 0) = false := by
  unfold rankCmp cmpI
  simp only [decide_eq_false_iff_not]
  intro h1 h2
  (repeat' split at h1) <;> (repeat' split at h2) <;> (repeat' split) <;> omega
theorem rankF_head (s : List Int) (k : Nat) (hk : 1 ≤ k) (hs : 1 ≤ s.length) : ∃ r rest, rankF s k = r :: rest ∧ r.toNat < s.length ∧ maxF s = s.getD r.toNat 0 := by
  have hl : (isort (fun a b => decide (rankCmp s a b < 0)) (order s.length)).length = s.length := by simp [isort, isortTo_length, order]
  have hso := isort_sorted (fun a b => decide (rankCmp s a b < 0)) (rankCmp_asym s) (rankCmp_ntr s) (order s.length)
  have hpe := isort_perm (fun a b => decide (rankCmp s a b < 0)) (order s.length)
  have hme : ∀ x ∈ isort (fun a b => decide (rankCmp s a b < 0)) (order s.length), 0 ≤ x ∧ x < s.length := fun x hx => order_mem (hpe.mem_iff.1 hx)
  have hr : rankF s k = (isort (fun a b => decide (rankCmp s a b < 0)) (order s.length)).take k := rfl
  generalize isort (fun a b => decide (rankCmp s a b < 0)) (order s.length) = L at *
  match L, hl, hr with
  | [], hl, _ => simp at hl; omega
  | r :: L, hl, hr =>
    obtain ⟨k, rfl⟩ : ∃ k', k = k' + 1 := ⟨k - 1, by omega⟩
    have hr0 := hme r (by simp)
    have hrl : r.toNat < s.length := by omega
    refine ⟨r, L.take k, by rw [hr]; rfl, hrl, ?_⟩
    have hup : ∀ x ∈ s, x ≤ s.getD r.toNat 0 := by
      intro x hx
      obtain ⟨j, hj, rfl⟩ := List.mem_iff_getElem.1 hx
      have hjo : (j : Int) ∈ order s.length := by unfold order; exact List.mem_map.2 ⟨j, List.mem_range.2 hj, rfl⟩
      have hjL := hpe.mem_iff.2 hjo
      obtain ⟨i, hi, he⟩ := List.mem_iff_getElem.1 hjL
      have e1 : s[j] = s.getD j 0 := by simp [List.getD, hj]
      rw [e1]
      match i, hi, he with
      | 0, hi, he =>
        simp at he
        rw [he]
        simp
      | i + 1, hi, he =>
        have h := hso 0 (i + 1) (by omega) (by simpa [order] using (show i + 1 < s.length by rw [← hl]; exact hi)) r (j : Int) rfl (by rw [List.getElem?_eq_getElem hi, he])
        simp only [decide_eq_false_iff_not, rankCmp, cmpI, Int.toNat_natCast] at h
        split at h
        · omega
        · split at h <;> omega
    have h1 : s.getD r.toNat 0 ≤ maxF s := by
      have e1 : s.getD r.toNat 0 = s[r.toNat] := by simp [List.getD, hrl]
      rw [e1]
      exact maxF_ge s (List.getElem_mem hrl)
    have h2 : maxF s ∈ s := by
      match s, hs with
      | y :: s, _ =>
        have key : ∀ (l : List Int) (z : Int), l.foldl max z = z ∨ l.foldl max z ∈ l := by
          intro l
          induction l with
          | nil => exact fun z => Or.inl rfl
          | cons p l ih =>
            intro z
            rw [List.foldl_cons]
            rcases ih (max z p) with h | h
            · rw [h]
              rcases Int.le_total z p with h1 | h1
              · right; simp [Int.max_eq_right h1]
              · left; exact Int.max_eq_left h1
            · right; simp [h]
        rcases key s y with h | h
        · simp [maxF, h]
        · simp [maxF, h]
    have := hup _ h2
    omega
theorem Model.weights_pos (m : Model) (hM : m.Ok) (s : List Int) (hs : s.length = m.vocab) : 0 < isum (m.weights s) := by
  have hv := hM.vocab
  obtain ⟨r, rest, e, hr, hmax⟩ := rankF_head s m.top hM.top.1 (by omega)
  have hg : m.wAt s r.toNat = m.odds.getD 0 0 := by
    unfold Model.wAt
    rw [hmax]
    simp
  have h0 : (m.weights s)[r.toNat]? = some (m.wAt s r.toNat) := by
    rw [m.weights_eq, e]
    refine setAll_stay (m.wAt s) rest r.toNat _ ?_
    have : r.toNat < m.vocab := by omega
    simp [List.getElem?_set, this]
  refine isum_pos _ _ (m.weights_range hM s) _ _ h0 ?_
  have h1 := m.wAt_range hM s r.toNat
  have h2 := hM.odds0
  rw [hg] at h1 ⊢
  omega

/-- The next token for entries and a draw. -/
def Model.next (m : Model) (es : List (List Int)) (d : Int) : Nat := sampleF (m.weights (m.scores es)) d
theorem Model.scores_length (m : Model) (es : List (List Int)) : (m.scores es).length = m.vocab := by simp [Model.scores]
theorem Model.next_lt (m : Model) (hM : m.Ok) (es : List (List Int)) (d : Int) (hd : 0 ≤ d ∧ d < 4294967296) : m.next es d < m.vocab := by
  have := sampleF_lt (m.weights (m.scores es)) d hd (m.weights_pos hM _ (m.scores_length es))
  rwa [m.weights_length] at this
end Go.Proofs.YtedkfehdfmimoaaGreat

namespace Go.Proofs.YtedkfehdfmimoaaGreat
open Go.RowKit

theorem Model.entry_good (M : Model) (hM : M.Ok) (hkind : M.kind = 1) (t i : Nat) : (M.entry t i).length = M.len ∧ inRange (-2147483648) 2147483647 (M.entry t i) := by
  have hc := hM.lcuts
  have h0 : 0 < M.cuts.length := by omega
  have hcut := hM.cuts _ (List.getElem_mem h0)
  have e : M.cuts[0] = M.cut 0 := by simp [Model.cut, List.getD, h0]
  rw [e] at hcut
  unfold Model.entry Model.len
  rw [if_pos hkind, if_pos hkind]
  constructor
  · have := ent_flat_length M t i 3
    simpa [Model.ent] using this
  · intro z hz
    obtain ⟨k, -, hz⟩ := List.mem_flatMap.1 hz
    obtain ⟨o, -, rfl⟩ := List.mem_map.1 hz
    exact shiftF_word _ _ hcut.1 hcut.2 (dotF_word _ _)

set_option maxRecDepth 100000 in
set_option maxHeartbeats 400000 in
theorem length_any (w : World) (M : Model) (hM : M.Ok) (hkind : M.kind = 1) (v4 v5 v6 v7 v8 v9 v10 : Value) :
    Calls Tryz.prog 126 #[.agg #[.int .i64 M.kind, .int .i64 M.vocab, .int .i64 M.width, .int .i64 M.top, v4, v5, v6, v7, v8, v9, v10]] w fun e w' => e = .returned (.int .i64 M.len) ∧ Below w.heap.size w w' := by
  obtain ⟨hw1, hw2⟩ := hM.width
  have e : (M.len : Int) = 3 * M.width := by unfold Model.len; rw [if_pos hkind]; omega
  rw [e]
  have hk1 : (M.kind == 1) = true := by simpa using hkind
  clear hkind e
  go_enter Tryz.func126, Tryz.ntmps126
  go_wp2_with fail
  go_ret
  exact ⟨by go_num, by go_grown⟩

set_option maxHeartbeats 400000 in
theorem isWord_yes (n : Int) (w : World) (h1 : -2147483648 ≤ n) (h2 : n ≤ 2147483647) :
    Calls Tryz.prog 42 #[.int .i64 n] w fun e w' => e = .returned (.bool true) ∧ w = w' := by
  go_enter Tryz.func42, Tryz.ntmps42
  go_wp2_with (go_at_call 41; refine (within_yes _ _ _ _ h1 h2).mono ?_; rintro e w' ⟨rfl, rfl⟩)
  go_ret
  exact ⟨rfl, rfl⟩
set_option maxHeartbeats 400000 in
theorem entriesOK1_yes (n : Int) (w : World) (h1 : -2147483648 ≤ n) (h2 : n ≤ 2147483647) :
    Calls Tryz.prog 127 #[.int .i64 n] w fun e w' => e = .returned (.bool false) ∧ w = w' := by
  go_enter Tryz.func127, Tryz.ntmps127
  go_wp2_with (go_at_call 42; refine (isWord_yes _ _ h1 h2).mono ?_; rintro e w' ⟨rfl, rfl⟩)
  go_ret
  exact ⟨rfl, rfl⟩
set_option maxHeartbeats 400000 in
theorem drawOK_yes (n : Int) (w : World) (h1 : 0 ≤ n) (h2 : n < 4294967296) :
    Calls Tryz.prog 117 #[.int .i64 n] w fun e w' => e = .returned (.bool true) ∧ w = w' := by
  go_enter Tryz.func117, Tryz.ntmps117
  go_wp2_with (go_at_call 41; refine (within_yes _ _ _ _ h1 (by omega)).mono ?_; rintro e w' ⟨rfl, rfl⟩)
  go_ret
  exact ⟨rfl, rfl⟩

set_option maxHeartbeats 400000 in
theorem index_words (w : World) (T : Nat → Prop) (A : Option Addr) (n c : Nat) (xs : List Int) (hr : Reads w T 1 A n (ints xs)) (hn : n ≤ 9223372036854775807) (hx : inRange (-2147483648) 2147483647 xs) :
    Calls Tryz.prog 87 #[.slice A n c, .func (.func 127) #[] #[]] w fun e w' => e = .returned (.int .i64 (-1)) ∧ w = w' := by
  go_enter Tryz.func87, Tryz.ntmps87
  go_wp2_with fail
  go_loop [8] (fun i => ∃ k : Nat, k ≤ n ∧ i = .int .i64 k) (fun i => n - (intOf i).toNat)
  case atStart => exact ⟨0, Nat.zero_le _, rfl⟩
  case round =>
    obtain ⟨k, hk, rfl⟩ := hrel
    by_cases hlt : k < n
    · obtain ⟨ad, u, rfl, _, _, hu, hc⟩ := hr.at_ hlt
      have hll : k < xs.length := by have := hr.1; simp [ints] at this; omega
      rw [ints_get xs _ hll] at hu
      obtain ⟨h1, h2⟩ := hx _ (List.getElem_mem hll)
      obtain ⟨x, hx⟩ : ∃ x, x = xs[k] := ⟨_, rfl⟩
      rw [← hx] at hu h1 h2
      injection hu with hu
      subst hu
      clear hx
      go_wp2_with (go_at_call 127; refine (entriesOK1_yes _ _ h1 h2).mono ?_; rintro e w' ⟨rfl, rfl⟩)
      go_round
      case rel => exact ⟨k + 1, by omega, by go_num⟩
      case measure => simp [intOf]; omega
    · go_wp2_with fail
      go_ret
      exact ⟨rfl, rfl⟩
set_option maxHeartbeats 400000 in
theorem contains_words (w : World) (T : Nat → Prop) (v : Value) (xs : List Int) (h : Slc w T v xs) (hx : inRange (-2147483648) 2147483647 xs) :
    Calls Tryz.prog 62 #[v, .func (.func 127) #[] #[]] w fun e w' => e = .returned (.bool false) ∧ w = w' := by
  obtain ⟨A, c, rfl, hr, h1, h2, _⟩ := h
  have h3 : xs.length ≤ 9223372036854775807 := by unfold maxLen at h2; omega
  clear h1 h2
  go_enter Tryz.func62, Tryz.ntmps62
  go_wp2_with (go_at_call 87; refine (index_words _ _ _ _ _ _ hr h3 hx).mono ?_; rintro e w' ⟨rfl, rfl⟩)
  go_ret
  exact ⟨rfl, rfl⟩

set_option maxRecDepth 100000 in
set_option maxHeartbeats 1000000 in
theorem entriesOK_any (w : World) (T' T2 : Nat → Prop) (M : Model) (v4 v5 v6 v7 v8 v9 v10 : Value) (hM : M.Ok) (hkind : M.kind = 1)
    (E : Option Addr) (ce : Nat) (vs : List Value) (es : List (List Int)) (hE : Reads w T' 1 E es.length vs) (hR : Rows w T2 vs es) (hes : goodEntries M es) (hn1 : 1 ≤ es.length) (hn2 : es.length ≤ 64) :
    Calls Tryz.prog 116 #[.agg #[.int .i64 M.kind, .int .i64 M.vocab, .int .i64 M.width, .int .i64 M.top, v4, v5, v6, v7, v8, v9, v10], .slice E es.length ce] w fun e w' => e = .returned (.int .i64 0) ∧ Below w.heap.size w w' := by
  have HK := Lib.hid hkind
  clear hkind
  have HES := Lib.hid hes
  clear hes
  have hz : ((es.length : Int) == 0) = false := by simp; intro h; subst h; simp at hn1
  go_enter Tryz.func116, Tryz.ntmps116
  go_wp2_with fail
  have k1 := (Blk.new w 27 #[.int .i64 M.kind, .int .i64 M.vocab, .int .i64 M.width, .int .i64 M.top, v4, v5, v6, v7, v8, v9, v10])
  have b1 : Below w.heap.size w (w.alloc (.cells #[.int .i64 M.kind, .int .i64 M.vocab, .int .i64 M.width, .int .i64 M.top, v4, v5, v6, v7, v8, v9, v10] 27)) := ((Below.refl _ _).alloc (Nat.le_refl _) _)
  have hE1 := hE.alloc (.cells #[.int .i64 M.kind, .int .i64 M.vocab, .int .i64 M.width, .int .i64 M.top, v4, v5, v6, v7, v8, v9, v10] 27)
  have hR1 := hR.alloc (.cells #[.int .i64 M.kind, .int .i64 M.vocab, .int .i64 M.width, .int .i64 M.top, v4, v5, v6, v7, v8, v9, v10] 27)
  generalize w.alloc (.cells #[.int .i64 M.kind, .int .i64 M.vocab, .int .i64 M.width, .int .i64 M.top, v4, v5, v6, v7, v8, v9, v10] 27) = w1 at *
  clear hE hR
  go_loopw [15] (fun i wr => ∃ j : Nat, j ≤ es.length ∧ i = .int .i64 j ∧ Below w1.heap.size w1 wr) (fun i _ => es.length - (intOf i).toNat)
  case atStart => exact ⟨0, by omega, rfl, Below.refl _ _⟩
  obtain ⟨j, hj, rfl, hb⟩ := hrel
  by_cases hlt : j < es.length
  · have hEr := hE1.fresh hb
    have hRr := hR1.fresh hb
    obtain ⟨ad, u, rfl, -, -, hu, cu⟩ := hEr.at_ hlt
    obtain ⟨u', hu', hsl⟩ := hRr.2 j hlt
    rw [hu] at hu'
    injection hu' with hu'
    subst hu'
    obtain ⟨he1, he2⟩ := HES.out _ (List.getElem_mem hlt)
    obtain ⟨A, c, rfl⟩ := hsl.len
    generalize es[j] = x at *
    rw [he1] at hsl cu
    clear hu
    have HE2 := Lib.hid he2
    clear he1 he2
    have kr := k1.below hb k1.lt
    have qr := kr.cell
    go_wp2_with fail
    refine (length_any _ M hM HK.out v4 v5 v6 v7 v8 v9 v10).mono ?_
    rintro e w2 ⟨rfl, hb2⟩
    have hs2 := hsl.fresh hb2
    go_wp2_with (go_at_call 62; refine (contains_words _ _ _ _ hs2 HE2.out).mono ?_; rintro e w' ⟨rfl, rfl⟩)
    go_roundw
    case rel => exact ⟨j + 1, by omega, by go_num, hb.trans (hb2.mono hb.size)⟩
    case measure => simp [intOf]; omega
  · obtain rfl : j = es.length := by omega
    go_wp2_with fail
    go_ret
    exact ⟨rfl, b1.trans (hb.mono b1.size)⟩

theorem Rows.drew {w : World} {T : Nat → Prop} {vs : List Value} {ls : List (List Int)} (h : Rows w T vs ls) : Rows w.drew T vs ls := h
theorem mcells {w : World} {g : Nat} {M : Model} {v4 v5 v6 v7 v8 v9 v10 : Value} (h : Blk w g 27 #[.int .i64 M.kind, .int .i64 M.vocab, .int .i64 M.width, .int .i64 M.top, v4, v5, v6, v7, v8, v9, v10]) :
    w.cell? ⟨g, 0, none⟩ = some (.int .i64 M.kind) ∧ w.cell? ⟨g, 1, none⟩ = some (.int .i64 M.vocab) ∧ w.cell? ⟨g, 2, none⟩ = some (.int .i64 M.width) ∧ w.cell? ⟨g, 3, none⟩ = some (.int .i64 M.top) ∧ w.cell? ⟨g, 4, none⟩ = some v4 ∧ w.cell? ⟨g, 5, none⟩ = some v5 ∧ w.cell? ⟨g, 6, none⟩ = some v6 ∧ w.cell? ⟨g, 7, none⟩ = some v7 ∧ w.cell? ⟨g, 8, none⟩ = some v8 ∧ w.cell? ⟨g, 9, none⟩ = some v9 ∧ w.cell? ⟨g, 10, none⟩ = some v10 := by
  have q := h.cell
  exact ⟨q 0, q 1, q 2, q 3, q 4, q 5, q 6, q 7, q 8, q 9, q 10⟩

set_option maxRecDepth 100000 in
set_option maxHeartbeats 1000000 in
theorem next_any' (w : World) (T T' T2 : Nat → Prop) (M : Model) (v4 v5 v6 v7 v8 v9 v10 : Value) (h : MSl w T M v4 v5 v6 v7 v8 v9 v10) (hM : M.Ok) (hkind : M.kind = 1)
    (E : Option Addr) (ce : Nat) (vs : List Value) (es : List (List Int)) (hE : Reads w T' 1 E es.length vs) (hR : Rows w T2 vs es) (hes : goodEntries M es) (hn1 : 1 ≤ es.length) (hn2 : es.length ≤ 64)
    (d : Int) (hd : 0 ≤ d ∧ d < 4294967296) :
    Calls Tryz.prog 45 #[.agg #[.int .i64 M.kind, .int .i64 M.vocab, .int .i64 M.width, .int .i64 M.top, v4, v5, v6, v7, v8, v9, v10], .slice E es.length ce, .int .i64 d] w fun e w' => e = .returned (.int .i64 (M.next es d)) ∧ Below w.heap.size w w' := by
  have hpos := M.weights_pos hM (M.scores es) (M.scores_length es)
  have hwl := M.weights_length (M.scores es)
  have hwr := M.weights_range hM (M.scores es)
  have hslen := M.scores_length es
  have hsw := M.scores_word es
  have HP := Lib.hid hpos
  have HWL := Lib.hid hwl
  have HWR := Lib.hid hwr
  have HSL := Lib.hid hslen
  have HSW := Lib.hid hsw
  have HK := Lib.hid hkind
  have HE := Lib.hid hes
  obtain ⟨hv1, hv2⟩ := hM.vocab
  clear hpos hwl hwr hslen hsw hkind hes
  have h0 := h.alloc (.cells #[.int .i64 M.kind, .int .i64 M.vocab, .int .i64 M.width, .int .i64 M.top, v4, v5, v6, v7, v8, v9, v10] 27)
  have k0 := Blk.new w 27 #[.int .i64 M.kind, .int .i64 M.vocab, .int .i64 M.width, .int .i64 M.top, v4, v5, v6, v7, v8, v9, v10]
  have b0 : Below w.heap.size w (w.alloc (.cells #[.int .i64 M.kind, .int .i64 M.vocab, .int .i64 M.width, .int .i64 M.top, v4, v5, v6, v7, v8, v9, v10] 27)) := (Below.refl _ _).alloc (Nat.le_refl _) _
  have z0 := k0.lt
  have hE0 := hE.alloc (.cells #[.int .i64 M.kind, .int .i64 M.vocab, .int .i64 M.width, .int .i64 M.top, v4, v5, v6, v7, v8, v9, v10] 27)
  have hR0 := hR.alloc (.cells #[.int .i64 M.kind, .int .i64 M.vocab, .int .i64 M.width, .int .i64 M.top, v4, v5, v6, v7, v8, v9, v10] 27)
  go_enter Tryz.func45, Tryz.ntmps45
  go_wp2_with fail
  generalize w.alloc (.cells #[.int .i64 M.kind, .int .i64 M.vocab, .int .i64 M.width, .int .i64 M.top, v4, v5, v6, v7, v8, v9, v10] 27) = w0 at *
  clear h hE hR
  obtain ⟨q0, q1, q2, q3, q4, q5, q6, q7, q8, q9, q10⟩ := mcells k0
  go_region_held3 (fun w' => w'.cell? ⟨w.heap.size, 0, none⟩ = some (.int .i64 M.kind) ∧ w'.cell? ⟨w.heap.size, 1, none⟩ = some (.int .i64 M.vocab) ∧ w'.cell? ⟨w.heap.size, 2, none⟩ = some (.int .i64 M.width) ∧ w'.cell? ⟨w.heap.size, 3, none⟩ = some (.int .i64 M.top) ∧ w'.cell? ⟨w.heap.size, 4, none⟩ = some v4 ∧ w'.cell? ⟨w.heap.size, 5, none⟩ = some v5 ∧ w'.cell? ⟨w.heap.size, 6, none⟩ = some v6 ∧ w'.cell? ⟨w.heap.size, 7, none⟩ = some v7 ∧ w'.cell? ⟨w.heap.size, 8, none⟩ = some v8 ∧ w'.cell? ⟨w.heap.size, 9, none⟩ = some v9 ∧ w'.cell? ⟨w.heap.size, 10, none⟩ = some v10) (go_keep) ((first
    | (go_at_call 84; refine (scores_any _ _ _ _ M v4 v5 v6 v7 v8 v9 v10 h0.drew hM HK.out E ce vs es hE0.drew hR0.drew HE.out hn1 hn2).mono ?_; rintro e w1 ⟨vs1, rfl, ho1, hb1⟩; obtain ⟨A1, c1, rfl, -, -⟩ := ho1.shape; obtain ⟨p0, p1, p2, p3, p4, p5, p6, p7, p8, p9, p10⟩ := mcells (k0.drew.below hb1 z0))
    | (go_at_call 82; refine (sample_any _ _ _ (M.weights (M.scores es)) ho2.slc (by rw [HWL.out]; omega) (fun z hz => by have := HWR.out z hz; omega) HP.out d hd).mono ?_; rintro e w3 ⟨rfl, rfl⟩)
    | (go_at_call 83; refine (weights_any _ _ _ M v4 v5 v6 v7 v8 v9 v10 _ (h0.drew.fresh hb1) hM (M.scores es) ho1.slc HSL.out HSW.out).mono ?_; rintro e w2 ⟨vs2, rfl, ho2, hb2⟩; obtain ⟨r0, r1, r2, r3, r4, r5, r6, r7, r8, r9, r10⟩ := mcells ((k0.drew.below hb1 z0).below hb2 (k0.drew.below hb1 z0).lt))))
  go_wp2_with fail
  go_ret
  exact ⟨rfl, b0.trans ((((Below.refl _ _).trans (hb1.mono b0.size)).trans (hb2.mono (Nat.le_trans b0.size hb1.size))).drewed)⟩

set_option maxRecDepth 100000 in
set_option maxHeartbeats 1000000 in
theorem Next_ok (w : World) (T T' T2 : Nat → Prop) (M : Model) (v4 v5 v6 v7 v8 v9 v10 : Value) (h : MSl w T M v4 v5 v6 v7 v8 v9 v10) (hM : M.Ok) (hkind : M.kind = 1)
    (E : Option Addr) (ce : Nat) (vs : List Value) (es : List (List Int)) (hE : Reads w T' 1 E es.length vs) (hR : Rows w T2 vs es) (hes : goodEntries M es) (hn1 : 1 ≤ es.length) (hn2 : es.length ≤ 64)
    (d : Int) (hd : 0 ≤ d ∧ d < 4294967296) :
    Calls Tryz.prog 95 #[.agg #[.int .i64 M.kind, .int .i64 M.vocab, .int .i64 M.width, .int .i64 M.top, v4, v5, v6, v7, v8, v9, v10], .slice E es.length ce, .int .i64 d] w fun e w' => e = .returned (.tuple #[.int .i64 (M.next es d), .int .i64 0]) ∧ Below w.heap.size w w' := by
  have HK := Lib.hid hkind
  have HE := Lib.hid hes
  have HD := Lib.hid hd
  obtain ⟨hd1, hd2⟩ := hd
  have h0 := h.alloc (.cells #[.int .i64 M.kind, .int .i64 M.vocab, .int .i64 M.width, .int .i64 M.top, v4, v5, v6, v7, v8, v9, v10] 27)
  have hE0 := hE.alloc (.cells #[.int .i64 M.kind, .int .i64 M.vocab, .int .i64 M.width, .int .i64 M.top, v4, v5, v6, v7, v8, v9, v10] 27)
  have hR0 := hR.alloc (.cells #[.int .i64 M.kind, .int .i64 M.vocab, .int .i64 M.width, .int .i64 M.top, v4, v5, v6, v7, v8, v9, v10] 27)
  have k0 := Blk.new w 27 #[.int .i64 M.kind, .int .i64 M.vocab, .int .i64 M.width, .int .i64 M.top, v4, v5, v6, v7, v8, v9, v10]
  have b0 : Below w.heap.size w (w.alloc (.cells #[.int .i64 M.kind, .int .i64 M.vocab, .int .i64 M.width, .int .i64 M.top, v4, v5, v6, v7, v8, v9, v10] 27)) := (Below.refl _ _).alloc (Nat.le_refl _) _
  have z0 := k0.lt
  clear hkind hes h hE hR
  go_enter Tryz.func95, Tryz.ntmps95
  go_wp2_with fail
  refine (check_ok _ T M v4 v5 v6 v7 v8 v9 v10 h0 hM).mono ?_
  rintro e w1 ⟨rfl, hb1⟩
  have h1 := h0.fresh hb1
  have hE1 := hE0.fresh hb1
  have hR1 := hR0.fresh hb1
  have k1 := k0.below hb1 z0
  have b1 : Below w.heap.size w w1 := b0.trans (hb1.mono b0.size)
  have z1 := k1.lt
  have q1 := k1.cell
  clear hb1 h0 hE0 hR0 k0 b0
  go_wp2_with fail
  refine (entriesOK_any _ T' T2 M v4 v5 v6 v7 v8 v9 v10 hM HK.out E ce vs es hE1 hR1 HE.out hn1 hn2).mono ?_
  rintro e w2 ⟨rfl, hb2⟩
  have h2 := h1.fresh hb2
  have hE2 := hE1.fresh hb2
  have hR2 := hR1.fresh hb2
  have k2 := k1.below hb2 z1
  have b2 : Below w.heap.size w w2 := b1.trans (hb2.mono b1.size)
  have z2 := k2.lt
  have q2 := k2.cell
  clear hb2 h1 hE1 hR1 k1 b1 q1
  go_wp2_with (go_at_call 117; refine (drawOK_yes _ _ hd1 hd2).mono ?_; rintro e w' ⟨rfl, rfl⟩)
  refine (next_any' _ T T' T2 M v4 v5 v6 v7 v8 v9 v10 h2 hM HK.out E ce vs es hE2 hR2 HE.out hn1 hn2 d HD.out).mono ?_
  rintro e w3 ⟨rfl, hb3⟩
  go_wp2_with fail
  go_ret2
  exact ⟨rfl, b2.trans (hb3.mono b2.size)⟩

set_option maxRecDepth 100000 in
set_option maxHeartbeats 1000000 in
theorem Entry_ok (w : World) (T : Nat → Prop) (M : Model) (v4 v5 v6 v7 v8 v9 v10 : Value) (h : MSl w T M v4 v5 v6 v7 v8 v9 v10) (hM : M.Ok) (t i : Nat) (ht : t < M.vocab) (hi : i < 64) :
    Calls Tryz.prog 94 #[.agg #[.int .i64 M.kind, .int .i64 M.vocab, .int .i64 M.width, .int .i64 M.top, v4, v5, v6, v7, v8, v9, v10], .int .i64 t, .int .i64 i] w fun e w' => ∃ v, e = .returned (.tuple #[v, .int .i64 0]) ∧ Fresh w w' 3 1 v (M.entry t i).length (ints (M.entry t i)) := by
  obtain ⟨hv1, hv2⟩ := hM.vocab
  have h0 := h.alloc (.cells #[.int .i64 M.kind, .int .i64 M.vocab, .int .i64 M.width, .int .i64 M.top, v4, v5, v6, v7, v8, v9, v10] 27)
  have k0 := Blk.new w 27 #[.int .i64 M.kind, .int .i64 M.vocab, .int .i64 M.width, .int .i64 M.top, v4, v5, v6, v7, v8, v9, v10]
  have b0 : Below w.heap.size w (w.alloc (.cells #[.int .i64 M.kind, .int .i64 M.vocab, .int .i64 M.width, .int .i64 M.top, v4, v5, v6, v7, v8, v9, v10] 27)) := (Below.refl _ _).alloc (Nat.le_refl _) _
  have z0 := k0.lt
  clear h
  go_enter Tryz.func94, Tryz.ntmps94
  go_wp2_with fail
  refine (check_ok _ T M v4 v5 v6 v7 v8 v9 v10 h0 hM).mono ?_
  rintro e w1 ⟨rfl, hb1⟩
  have h1 := h0.fresh hb1
  have k1 := k0.below hb1 z0
  have b1 : Below w.heap.size w w1 := b0.trans (hb1.mono b0.size)
  have z1 := k1.lt
  have q1 := k1.cell
  clear hb1 h0 k0 b0
  go_wp2_with (go_at_call 41; refine (within_yes _ _ _ _ (by omega) (by omega)).mono ?_; rintro e w' ⟨rfl, rfl⟩)
  refine (entry_any _ T M v4 v5 v6 v7 v8 v9 v10 h1 hM t i ht hi).mono ?_
  rintro e w3 ⟨v, rfl, ho, hb3⟩
  go_wp2_with fail
  go_ret2
  exact ⟨_, rfl, ho.more (fun g _ hg => Nat.le_trans b1.size hg), b1.trans (hb3.mono b1.size)⟩
end Go.Proofs.YtedkfehdfmimoaaGreat

/- sorting the open requests. open, Waiting. Equal; the searches over pages. shared, spare. What holds of every state of the server. -/
import Derived.Test.YtedkfehdfmimoaaGreatKc18
import Derived.Test.YtedkfehdfmimoaaGreatKc10
import Derived.Test.YtedkfehdfmimoaaGreatKc19
namespace Go.Proofs.YtedkfehdfmimoaaGreat
open Go.RowKit

def SomeInt (w : World) (e : Ending) (w' : World) : Prop := ∃ k : Int, e = .returned (.int .i64 k) ∧ w = w'
set_option maxRecDepth 100000 in
set_option maxHeartbeats 1000000 in
theorem len64_any (n : Nat) (hn : n ≤ 12) (w : World) : Calls Tryz.prog 114 #[.int .u64 n] w (SomeInt w) := by
  obtain h | h | h | h | h | h | h | h | h | h | h | h | h : (n : Int) = 0 ∨ (n : Int) = 1 ∨ (n : Int) = 2 ∨ (n : Int) = 3 ∨ (n : Int) = 4 ∨ (n : Int) = 5 ∨ (n : Int) = 6 ∨ (n : Int) = 7 ∨ (n : Int) = 8 ∨ (n : Int) = 9 ∨ (n : Int) = 10 ∨ (n : Int) = 11 ∨ (n : Int) = 12 := by omega
  all_goals
    rw [h]
    clear h hn
    go_enter Tryz.func114, Tryz.ntmps114
    go_wp2
    go_ret
    exact ⟨_, rfl, rfl⟩
set_option maxHeartbeats 400000 in
theorem len_any (n : Nat) (hn : n ≤ 12) (w : World) : Calls Tryz.prog 89 #[.int .u64 n] w (SomeInt w) := by
  go_enter Tryz.func89, Tryz.ntmps89
  go_wp2_with (go_at_call 114; refine (len64_any n hn _).mono ?_; rintro e w' ⟨k, rfl, rfl⟩)
  go_ret
  exact ⟨_, rfl, rfl⟩
/-- 'cmp.Or' of two. -/
def orF (x y : Int) : Int := if x = 0 then y else x
set_option maxHeartbeats 400000 in
theorem or_any (w : World) (T : Nat → Prop) (A : Option Addr) (c : Nat) (x y : Int) (h : Slc w T (.slice A 2 c) [x, y]) :
    Calls Tryz.prog 67 #[.slice A 2 c] w fun e w' => e = .returned (.int .i64 (orF x y)) ∧ w = w' := by
  obtain ⟨-, ad, rfl, c0⟩ := h.at_ 0 (by simp)
  obtain ⟨-, ad', e, c1⟩ := h.at_ 1 (by simp)
  injection e with e
  subst e
  simp only [List.getElem_cons_zero, List.getElem_cons_succ] at c0 c1
  rw [show ad.add 0 = ad from by simp [Addr.add]] at c0
  rw [show ad.add 1 = ⟨ad.block, ad.off + 1, none⟩ from rfl] at c1
  clear h
  by_cases hx : x = 0
  · subst hx
    have e : orF 0 y = y := rfl
    rw [e]
    clear e
    go_enter Tryz.func67, Tryz.ntmps67
    go_wp2_with fail
    refine wp_loop_rounds 3 ?_
    rw [rounds_succ]
    go_wp2_with fail
    rw [rounds_succ]
    by_cases hy : y = 0
    · subst hy
      go_wp2_with fail
      rw [rounds_succ]
      go_wp2_with fail
      go_ret
      exact ⟨rfl, rfl⟩
    · have hy' : (y != 0) = true := by simpa using hy
      go_wp2_with fail
      go_ret
      exact ⟨rfl, rfl⟩
  · have e : orF x y = x := if_neg hx
    rw [e]
    clear e
    have hx' : (x != 0) = true := by simpa using hx
    go_enter Tryz.func67, Tryz.ntmps67
    go_wp2_with fail
    refine wp_loop_rounds 3 ?_
    rw [rounds_succ]
    go_wp2_with fail
    go_ret
    exact ⟨rfl, rfl⟩
/-- what the sort compares: by the deadline, then by the number -/
def Srv.cmp (s : Srv) (i j : Nat) : Int := orF (cmpI (s.req i).deadline (s.req j).deadline) (cmpI (s.req i).id (s.req j).id)
theorem lit2 (w : World) (x y : Int) : Slc (w.alloc (.cells #[.int .i64 x, .int .i64 y] 3)) (· = w.heap.size) (.slice (some ⟨w.heap.size, 0, none⟩) 2 2) [x, y] :=
  lit_slc w 3 [x, y] 2 rfl (by decide)
set_option maxRecDepth 100000 in
set_option maxHeartbeats 1000000 in
theorem open1_any (w : World) (own : Nat → Slot) (P : Ptrs) (s : Srv) (h : Rep w own P s) (i j : Nat) (hi : i < s.reqs.length) (hj : j < s.reqs.length) :
    Calls Tryz.prog 66 #[.pointer (some ⟨P.rb i, 0, none⟩), .pointer (some ⟨P.rb j, 0, none⟩)] w fun e w' => e = .returned (.int .i64 (s.cmp i j)) ∧ Below w.heap.size w w' := by
  have a1 : w.cell? ⟨P.rb i, 1, none⟩ = some (.int .i64 (s.req i).deadline) := h.rcell i _ (s.req_get i hi) 1
  have a0 : w.cell? ⟨P.rb i, 0, none⟩ = some (.int .i64 (s.req i).id) := h.rcell i _ (s.req_get i hi) 0
  have b1 : w.cell? ⟨P.rb j, 1, none⟩ = some (.int .i64 (s.req j).deadline) := h.rcell j _ (s.req_get j hj) 1
  have b0 : w.cell? ⟨P.rb j, 0, none⟩ = some (.int .i64 (s.req j).id) := h.rcell j _ (s.req_get j hj) 0
  have z1 := (h.req i hi).blk.lt
  have z2 := (h.req j hj).blk.lt
  unfold Srv.cmp
  generalize (s.req i).deadline = d1 at *
  generalize (s.req j).deadline = d2 at *
  generalize (s.req i).id = n1 at *
  generalize (s.req j).id = n2 at *
  clear h hi hj
  have HK := Lib.hid (fun w' => compare_any d1 d2 w')
  have HK2 := Lib.hid (fun w' => compare_any n1 n2 w')
  generalize cmpI d1 d2 = x at *
  generalize cmpI n1 n2 = y at *
  have n1' := World.new_ne w ⟨P.rb i, 1, none⟩ a1
  have n2' := World.new_ne w ⟨P.rb i, 0, none⟩ a0
  have n3' := World.new_ne w ⟨P.rb j, 1, none⟩ b1
  have n4' := World.new_ne w ⟨P.rb j, 0, none⟩ b0
  go_enter Tryz.func66, Tryz.ntmps66
  go_wp2_with fail
  go_region_held3 (fun w' => w'.cell? ⟨P.rb i, 1, none⟩ = some (.int .i64 d1) ∧ w'.cell? ⟨P.rb i, 0, none⟩ = some (.int .i64 n1) ∧ w'.cell? ⟨P.rb j, 1, none⟩ = some (.int .i64 d2) ∧ w'.cell? ⟨P.rb j, 0, none⟩ = some (.int .i64 n2)) (go_keep) ((first
    | (go_at_call 68; ((with_reducible refine (HK.out _).mono ?_); rintro e w' ⟨rfl, rfl⟩))
    | (go_at_call 68; ((with_reducible refine (HK2.out _).mono ?_); rintro e w' ⟨rfl, rfl⟩))
    | (go_at_call 67; refine (or_any _ _ _ _ x y (lit2 w x y).drew).mono ?_; rintro e w' ⟨rfl, rfl⟩)))
  all_goals
    go_wp2_with fail
    go_ret
    exact ⟨rfl, ((Below.refl _ _).alloc (Nat.le_refl _) _).drew⟩
end Go.Proofs.YtedkfehdfmimoaaGreat

namespace Go.Proofs.YtedkfehdfmimoaaGreat
open Go.RowKit

theorem preq_info : (Tryz.prog.info? 73).map (fun i => (i.zero, i.size, i.bytes)) = some (some (.pointer none), 1, 8) := by kernel_rfl
def ptrs (rb : Nat → Nat) (l : List Nat) : List Value := l.map fun i => .pointer (some ⟨rb i, 0, none⟩)
theorem ptrs_length (rb : Nat → Nat) (l : List Nat) : (ptrs rb l).length = l.length := by simp [ptrs]
theorem ptrs_one (rb : Nat → Nat) (l : List Nat) : ∀ u ∈ ptrs rb l, u.oneCell' = true := by
  intro u hu
  obtain ⟨_, _, rfl⟩ := List.mem_map.1 hu
  rfl
theorem ptrs_get (rb : Nat → Nat) (l : List Nat) (k : Nat) (h : k < l.length) : (ptrs rb l)[k]? = some (.pointer (some ⟨rb l[k], 0, none⟩)) := by simp [ptrs, h]
/-- the order of the requests -/
def Srv.less (s : Srv) (i j : Nat) : Bool := decide (s.cmp i j < 0)
theorem Srv.less_before (s : Srv) (i j : Nat) : s.less i j = s.before i j := by
  unfold Srv.less Srv.before Srv.cmp orF cmpI
  apply decide_eq_decide.2
  constructor <;> intro h <;> (repeat' split at h) <;> (repeat' split) <;> omega
theorem SortedTo.pairwise {α : Type} {lt : α → α → Bool} {l : List α} (h : SortedTo lt l.length l) : l.Pairwise fun a b => lt b a = false := by
  rw [List.pairwise_iff_getElem]
  intro i j hi hj hij
  exact h i j hij hj _ _ (List.getElem?_eq_getElem hi) (List.getElem?_eq_getElem hj)
theorem Srv.less_asym (s : Srv) (a b : Nat) : s.less a b = true → s.less b a = false := by
  rw [Srv.less_before, Srv.less_before]
  unfold Srv.before
  simp only [decide_eq_true_eq, decide_eq_false_iff_not]
  omega
theorem Srv.less_ntr (s : Srv) (a b c : Nat) : s.less b a = false → s.less c b = false → s.less c a = false := by
  rw [Srv.less_before, Srv.less_before, Srv.less_before]
  unfold Srv.before
  simp only [decide_eq_false_iff_not]
  omega
theorem Srv.sort_unique (s : Srv) (hd : s.Distinct) (xs ys : List Nat) (hp : xs.Perm ys) (hx : ∀ i ∈ xs, i < s.reqs.length) : isort s.less xs = isort s.less ys := by
  have p : (isort s.less xs).Perm (isort s.less ys) := ((isort_perm _ xs).trans hp).trans (isort_perm _ ys).symm
  have sx := isort_sorted s.less s.less_asym s.less_ntr xs
  have sy := isort_sorted s.less s.less_asym s.less_ntr ys
  have lx : (isort s.less xs).length = xs.length := (isort_perm s.less xs).length_eq
  have ly : (isort s.less ys).length = ys.length := (isort_perm s.less ys).length_eq
  rw [← lx] at sx
  rw [← ly] at sy
  refine p.eq_of_pairwise (le := fun a b => s.less b a = false) ?_ sx.pairwise sy.pairwise
  intro a b ha hb h1 h2
  have ma : a < s.reqs.length := hx a ((isort_perm s.less xs).mem_iff.1 ha)
  have mb : b < s.reqs.length := hx b (hp.mem_iff.2 ((isort_perm s.less ys).mem_iff.1 hb))
  rw [Srv.less_before] at h1 h2
  unfold Srv.before at h1 h2
  simp only [decide_eq_false_iff_not] at h1 h2
  exact hd a b ma mb (by omega)
def Srv.openList (s : Srv) : List Nat := (List.range s.reqs.length).filter fun i => !(s.req i).ended
theorem Srv.open_eq (s : Srv) : s.open_ = isort s.less s.openList := by
  unfold Srv.open_ Srv.openList
  rw [show s.before = s.less from by funext i j; exact (s.less_before i j).symm]
theorem Srv.open_lt (s : Srv) (i : Nat) (h : i ∈ s.open_) : i < s.reqs.length := by
  rw [Srv.open_eq] at h
  have := (isort_perm _ _).mem_iff.1 h
  unfold Srv.openList at this
  exact List.mem_range.1 (List.mem_filter.1 this).1
theorem Srv.open_length (s : Srv) : s.open_.length ≤ s.reqs.length := by
  rw [Srv.open_eq, (isort_perm _ _).length_eq]
  unfold Srv.openList
  exact Nat.le_trans (List.length_filter_le _ _) (by simp)

set_option maxRecDepth 100000 in
set_option maxHeartbeats 1000000 in
theorem sort_any (w : World) (own : Nat → Slot) (P : Ptrs) (s : Srv) (h : Rep w own P s) (T : Nat → Prop) (g cap n : Nat) (xs : List Nat) (ho : Own w T 73 1 (.slice (some ⟨g, 0, none⟩) n cap) n (ptrs P.rb xs)) (hn : n ≤ 12)
    (hx : ∀ i ∈ xs, i < s.reqs.length) (hg : own g = .other) :
    Calls Tryz.prog 65 #[.slice (some ⟨g, 0, none⟩) n cap, .func (.func 66) #[] #[]] w fun e w' => e = .returned (.tuple #[]) ∧
      Own w' T 73 1 (.slice (some ⟨g, 0, none⟩) n cap) n (ptrs P.rb (isort s.less xs)) ∧ Keeps (· = g) w w' := by
  have hs := fun W (hW : Rep W own P s) (hoW : Own W T 73 1 (.slice (some ⟨g, 0, none⟩) n cap) n (ptrs P.rb xs)) => ins_reqs P.rb W T g cap n xs hoW (by omega) #[] s.cmp (fun W => Rep W own P s) hW
    (fun W W' hW hb => hW.fresh hb) (fun W j u hW => hW.stay (Keeps.setCell (S := (· = g)) (Keeps.refl _ W) (p := ⟨g, j, none⟩) (fun _ => rfl) u) (fun k e => by rw [e]; exact hg))
    (fun W x y hW hx' hy' => open1_any W own P s hW x y (hx x hx') (hx y hy'))
  have HS := Lib.hid hs
  have H := Lib.hid h
  have HO := Lib.hid ho
  clear hs h ho hg hx
  have hpdq : ∀ (k : Int), Calls Tryz.prog 88 #[.slice (some ⟨g, 0, none⟩) n cap, .int .i64 0, .int .i64 n, .int .i64 k, .func (.func 66) #[] #[]] w fun e w' => e = .returned (.tuple #[]) ∧
      Own w' T 73 1 (.slice (some ⟨g, 0, none⟩) n cap) n (ptrs P.rb (isort s.less xs)) ∧ Keeps (· = g) w w' := by
    intro k
    have hn2 : (n : Int) ≤ 12 := by omega
    have hn3 : ((n : Int) - 0) ≤ 12 := by omega
    go_enter Tryz.func88, Tryz.ntmps88
    go_wp2_with fail
    refine wp_loop_rounds 1 ?_
    rw [rounds_succ]
    go_wp2_with fail
    refine (HS.out w H.out HO.out).mono ?_
    rintro e w1 ⟨rfl, ho, hk, -⟩
    have HO2 := Lib.hid ho
    have HK := Lib.hid hk
    clear ho hk
    go_wp2_with fail
    refine bodyPost_ret (results_none rfl _ _ _) rfl ?_
    exact ⟨rfl, HO2.out, HK.out⟩
  have HP := Lib.hid hpdq
  clear hpdq
  go_enter Tryz.func65, Tryz.ntmps65
  go_wp2_with fail
  refine (len_any n hn _).mono ?_
  rintro e w' ⟨k, rfl, rfl⟩
  go_wp2_with fail
  refine (HP.out k).mono ?_
  rintro e w1 ⟨rfl, ho, hk⟩
  have HO2 := Lib.hid ho
  have HK := Lib.hid hk
  clear ho hk
  go_wp2_with fail
  go_end0
  exact ⟨rfl, HO2.out, HK.out⟩

set_option maxRecDepth 100000 in
set_option maxHeartbeats 1000000 in
theorem sort_nil (w : World) : Calls Tryz.prog 65 #[.slice none 0 0, .func (.func 66) #[] #[]] w fun e w' => e = .returned (.tuple #[]) ∧ w = w' := by
  have hins : Calls Tryz.prog 105 #[.slice none 0 0, .int .i64 0, .int .i64 0, .func (.func 66) #[] #[]] w fun e w' => e = .returned (.tuple #[]) ∧ w = w' := by
    go_enter Tryz.func105, Tryz.ntmps105
    go_wp2_with fail
    refine wp_loop_rounds 1 ?_
    rw [rounds_succ]
    go_wp2_with fail
    go_end0
    exact ⟨rfl, rfl⟩
  have HI := Lib.hid hins
  clear hins
  have hpdq : ∀ (k : Int), Calls Tryz.prog 88 #[.slice none 0 0, .int .i64 0, .int .i64 0, .int .i64 k, .func (.func 66) #[] #[]] w fun e w' => e = .returned (.tuple #[]) ∧ w = w' := by
    intro k
    go_enter Tryz.func88, Tryz.ntmps88
    go_wp2_with fail
    refine wp_loop_rounds 1 ?_
    rw [rounds_succ]
    go_wp2_with fail
    refine HI.out.mono ?_
    rintro e w' ⟨rfl, rfl⟩
    go_wp2_with fail
    refine bodyPost_ret (results_none rfl _ _ _) rfl ?_
    exact ⟨rfl, rfl⟩
  have HP := Lib.hid hpdq
  clear hpdq
  go_enter Tryz.func65, Tryz.ntmps65
  go_wp2_with fail
  refine (len_any 0 (by omega) _).mono ?_
  rintro e w' ⟨k, rfl, rfl⟩
  go_wp2_with fail
  refine (HP.out k).mono ?_
  rintro e w1 ⟨rfl, rfl⟩
  go_wp2_with fail
  go_end0
  exact ⟨rfl, rfl⟩

theorem Srv.openList_mem (s : Srv) (i : Nat) : i ∈ s.openList ↔ i < s.reqs.length ∧ (s.req i).ended = false := by
  unfold Srv.openList
  simp
set_option maxRecDepth 100000 in
set_option maxHeartbeats 1000000 in
theorem open_any (w : World) (own : Nat → Slot) (P : Ptrs) (s : Srv) (h : Rep w own P s) (hd : s.Distinct) (hn : s.reqs.length ≤ 12) :
    Calls Tryz.prog 35 #[.pointer (some ⟨P.sa, 0, none⟩)] w (RetFresh w 73 1 s.open_.length (ptrs P.rb s.open_)) := by
  obtain ⟨i0, hi, hz0, hz1, hz2⟩ := info_parts preq_info
  have c17 : w.cell? ⟨P.sa, 17, none⟩ = some (.map (some P.ma)) := h.scell 17
  have hr0 : own w.heap.size = .other := h.beyond _ (Nat.le_refl _)
  have hmap : MapIs w P.ma (idMap P s) := h.map
  have hma := h.map.lt
  have H0 := Lib.hid h
  have HD := Lib.hid hd
  have HN := Lib.hid hn
  clear h hd hn
  go_enter Tryz.func35, Tryz.ntmps35
  go_wp2_with (first | (at_range; refine wpList_range_map hmap rfl _ rfl rfl ?_; intro w0 cnt0 hl0 hg0 hs0) | go_in)
  go_frame
  have hb0 : Below w.heap.size w w0 := (Below.refl _ _).grown hg0 (Nat.le_refl _) (fun g e => by cases e)
  go_loopw [3, 5] (fun v _ wr => ∃ left cnt xs, MapLeft wr P.ma w.heap.size (idMap P s) left cnt ∧ Own wr (fun g => w.heap.size + 1 ≤ g) 73 1 v xs.length (ptrs P.rb xs) ∧ Below w.heap.size w wr ∧ w.heap.size + 1 ≤ wr.heap.size ∧
    Hid (xs.Nodup ∧ (∀ i, i ∈ xs ↔ i ∈ s.openList ∧ left (s.req i).id = false) ∧ (xs = [] → v = .slice none 0 0))) (fun _ _ wr => wr.rangeLeft P.ma w.heap.size)
  case atStart =>
    refine ⟨_, _, [], hl0, Own.nil_ w0 _ _ _, hb0, by omega, ?_⟩
    show _ ∧ _
    refine And.intro List.nodup_nil (And.intro (fun i => Iff.intro (fun h => by cases h) fun h => ?_) fun _ => rfl)
    have := ((s.openList_mem i).1 h.1).1
    have h2 := h.2
    rw [idMap_look this HD.out] at h2
    cases h2
  obtain ⟨left, cnt, xs, hl, ho, hb, hz, hxs⟩ := hrel
  have HL := Lib.hid hl
  clear hl0 hg0 hs0 hb0 hl hmap c17
  go_wp2_with (first
    | (at_next; refine wpList_next_map HL.out rfl _ rfl rfl ?_ ?_)
    | go_in)
  · intro hdone
    have hlist : ∀ i, i ∈ xs ↔ i ∈ s.openList := fun i => ⟨fun h => ((hxs.2.1 i).1 h).1, fun h => (hxs.2.1 i).2 ⟨h, hdone _⟩⟩
    have hperm : xs.Perm s.openList := (List.perm_ext_iff_of_nodup hxs.1 (by unfold Srv.openList; exact List.Pairwise.filter _ List.nodup_range)).2 hlist
    have hx : ∀ i ∈ xs, i < s.reqs.length := fun i hi => ((s.openList_mem i).1 ((hlist i).1 hi)).1
    have hsort : isort s.less xs = s.open_ := by rw [Srv.open_eq]; exact s.sort_unique HD.out xs _ hperm hx
    have hlen : xs.length = s.open_.length := by rw [← hsort, (isort_perm _ _).length_eq]
    have hle : xs.length ≤ 12 := by rw [hlen]; exact Nat.le_trans s.open_length HN.out
    have HSORT := Lib.hid hsort
    have HLEN := Lib.hid hlen
    have HB := Lib.hid hb
    have hso := fun g cap (hv : u3 = .slice (some ⟨g, 0, none⟩) xs.length cap) => sort_any wr own P s (H0.out.fresh hb) (fun g => w.heap.size + 1 ≤ g) g cap xs.length xs (hv ▸ ho) hle hx (H0.out.beyond g (by have := ho.2 g (by rw [hv]; rfl); omega))
    have HSO := Lib.hid hso
    have HO := Lib.hid ho
    by_cases h0 : 0 < xs.length
    · obtain ⟨g, cap, rfl, hc1, hc2, -, hT⟩ := ho.form h0
      clear hdone hlist hperm hx hsort hlen hle hb hso ho hxs
      have HT := Lib.hid hT
      clear hT
      generalize xs.length = n at *
      go_wp2_with fail
      refine (HSO.out g cap rfl).mono ?_
      rintro e w1 ⟨rfl, ho, hk⟩
      have HO2 := Lib.hid ho
      have HK := Lib.hid hk
      clear ho hk
      go_wp2_with fail
      go_ret
      refine ⟨_, rfl, ?_, ?_⟩
      · have ho := HO2.out
        rw [HSORT.out] at ho
        rw [← HLEN.out]
        exact ho.more fun g _ h => by omega
      · have hk := HK.out
        have hT := HT.out
        exact HB.out.trans ⟨hk.os, hk.tape, hk.output, hk.size, fun k hk' => hk.block k (Nat.lt_of_lt_of_le hk' (by omega)) (by omega)⟩
    · have hx0 : xs = [] := List.eq_nil_of_length_eq_zero (by omega)
      have hv := hxs.2.2 hx0
      subst hv
      subst hx0
      have HS0 : Hid (s.open_ = []) := Lib.hid hsort.symm
      clear hdone hlist hperm hx hsort hlen hle hb hso ho hxs h0 HSO HSORT HLEN HO
      go_wp2_with fail
      refine (sort_nil _).mono ?_
      rintro e w1 ⟨rfl, rfl⟩
      go_wp2_with fail
      go_ret
      exact ⟨_, rfl, by rw [HS0.out]; exact Own.nil_ _ _ _ _, HB.out⟩
  · intro x g w2 cnt2 hx hg hl2 hlt2 hg2 hs2 hen
    obtain ⟨i, hil, rfl, rfl⟩ := idMap_mem (lookup_mem hg)
    have hb2 : Below w.heap.size w w2 := hb.grown hg2 hb.size fun k e => by injection e with e; omega
    have ho2 : Own w2 (fun g => w.heap.size + 1 ≤ g) 73 1 u3 xs.length (ptrs P.rb xs) := ho.grown hg2 fun k e h => by injection e with e; omega
    have h2 := H0.out.fresh hb2
    have c9 : w2.cell? ⟨P.rb i, 9, none⟩ = some (.bool (s.req i).ended) := h2.rcell i _ (s.req_get i hil) 9
    have hen9 : ∃ en, en = (s.req i).ended := ⟨_, rfl⟩
    obtain ⟨en, hen9⟩ := hen9
    rw [← hen9] at c9
    have hni : i ∉ xs := fun h => by
      have := ((hxs.2.1 i).1 h).2
      rw [hx] at this; cases this
    have hle : xs.length ≤ 12 := by
      have : xs.length ≤ s.openList.length := by
        refine List.Nodup.length_le_of_subset hxs.1 fun j hj => ((hxs.2.1 j).1 hj).1
      have h3 : s.openList.length ≤ s.reqs.length := by unfold Srv.openList; exact Nat.le_trans (List.length_filter_le _ _) (by simp)
      exact Nat.le_trans this (Nat.le_trans h3 HN.out)
    have HXS := Lib.hid hxs
    have HNI := Lib.hid hni
    have HE := Lib.hid hen9
    have HL2 := Lib.hid hl2
    have HX := Lib.hid hx
    have HI := Lib.hid hil
    have HB2 := Lib.hid hb2
    have HO2 := Lib.hid ho2
    have hzw : w.heap.size + 1 ≤ w2.heap.size := by omega
    clear hxs hni hen9 hl2 hx hil hb hg hg2 hs2 h2 ho ho2
    cases en
    · obtain ⟨n, hnx⟩ : ∃ n, n = xs.length := ⟨_, rfl⟩
      have HNX := Lib.hid hnx
      have hle' : n ≤ 12 := by omega
      have ho3 := HO2.out
      rw [← hnx] at ho3
      clear hnx hle
      go_wp2_with (first | (at_builtin; go_must (refine wpList_append_any _ rfl _ _ 77 rfl 73 i0 _ 1 8 Tryz.underlying77 hi hz0 hz1 hz2 rfl (by omega) u3 _ _ rfl (ho3.alloc _) _ 1 1 _ rfl (own_lit _ (fun _ => True) _ [_] 1 (by decide) rfl trivial).reads (by intro u hu; simp at hu; subst hu; rfl) (by unfold maxLen; omega) (by omega) ?_); intro v' w3 happ))
      go_roundw
      case rel =>
        have hg3 : w2.grownBy w3 u3.ownBlock := grown_after (wr := w2) (W1 := w2) (n := 0) (Below.refl _ _) happ.2.1
        have hrow : ∀ g, u3.ownBlock = some g → w.heap.size + 1 ≤ g := fun g hg => ho3.2 g hg
        refine ⟨_, cnt2, xs ++ [i], HL2.out.keep ?_ ?_, ?_, HB2.out.grown hg3 HB2.out.size (fun g hg => by have := hrow g hg; omega), by have := hg3.size; omega, ?_⟩
        · exact hg3.block _ (by have := HB2.out.size; omega) (fun e => by have := hrow _ e.symm; omega)
        · exact hg3.block _ (by omega) (fun e => by have := hrow _ e.symm; omega)
        · have ha := happ.1.more (T' := fun g => w.heap.size + 1 ≤ g) fun g _ hg => by
            rcases hg with hg | hg
            · exact hg
            · simp at hg; omega
          simp only [List.length_append, List.length_singleton, ptrs, List.map_append, List.map_cons, List.map_nil]
          rw [← HNX.out]
          exact ha
        · show _ ∧ _
          refine And.intro ?_ (And.intro (fun j => ?_) (fun h => by simp at h))
          · rw [List.nodup_append]
            refine ⟨HXS.out.1, by simp, fun a ha b hb e => ?_⟩
            simp at hb
            subst hb
            subst e
            exact HNI.out ha
          · rw [List.mem_append, List.mem_singleton, HXS.out.2.1 j]
            have hi9 : i ∈ s.openList := (s.openList_mem i).2 ⟨HI.out, HE.out.symm⟩
            constructor
            · rintro (⟨h1, h2⟩ | rfl)
              · exact ⟨h1, by simp [h2]⟩
              · exact ⟨hi9, by simp⟩
            · rintro ⟨h1, h2⟩
              by_cases e : j = i
              · exact Or.inr e
              · refine Or.inl ⟨h1, ?_⟩
                have hne : (s.req j).id ≠ (s.req i).id := fun h => e (HD.out j i ((s.openList_mem j).1 h1).1 HI.out h)
                simpa [hne] using h2
      case measure =>
        have hg3 : w2.grownBy w3 u3.ownBlock := grown_after (wr := w2) (W1 := w2) (n := 0) (Below.refl _ _) happ.2.1
        have hrow : ∀ g, u3.ownBlock = some g → w.heap.size + 1 ≤ g := fun g hg => ho3.2 g hg
        rw [HL.out.left_eq]
        have : w3.rangeLeft P.ma w.heap.size = cnt2 := by
          refine MapLeft.left_eq (HL2.out.keep ?_ ?_)
          · exact hg3.block _ (by have := HB2.out.size; omega) (fun e => by have := hrow _ e.symm; omega)
          · exact hg3.block _ (by omega) (fun e => by have := hrow _ e.symm; omega)
        rw [this]; exact hlt2
    · go_wp2_with fail
      go_roundw
      case rel =>
        refine ⟨_, cnt2, xs, HL2.out, HO2.out, HB2.out, by omega, ?_⟩
        refine And.intro HXS.out.1 (And.intro (fun j => ?_) HXS.out.2.2)
        rw [HXS.out.2.1 j]
        refine and_congr_right fun hj => ?_
        by_cases e : (s.req j).id = (s.req i).id
        · have := HD.out j i ((s.openList_mem j).1 hj).1 HI.out e
          subst this
          have h9 := ((s.openList_mem j).1 hj).2
          rw [← HE.out] at h9
          cases h9
        · simp [e]
      case measure => rw [HL.out.left_eq, HL2.out.left_eq]; exact hlt2
end Go.Proofs.YtedkfehdfmimoaaGreat

namespace Go.Proofs.YtedkfehdfmimoaaGreat
open Go.RowKit

set_option maxRecDepth 100000 in
set_option maxHeartbeats 1000000 in
theorem equal_any (w : World) (T T' : Nat → Prop) (A B : Option Addr) (n m c d : Nat) (xs ys : List Int) (hx : Reads w T 1 A n (ints xs)) (hy : Reads w T' 1 B m (ints ys)) (hn : n ≤ 1000000) :
    Calls Tryz.prog 19 #[.slice A n c, .slice B m d] w fun e w' => e = .returned (.bool (decide (xs = ys))) ∧ ∃ k, w' = w.drewN k := by
  have hlx : xs.length = n := by have := hx.1; simp [ints] at this; omega
  have hly : ys.length = m := by have := hy.1; simp [ints] at this; omega
  by_cases hnm : n = m
  · subst hnm
    have HLX := Lib.hid hlx
    have HLY := Lib.hid hly
    clear hlx hly
    have hself : ((n : Int) != (n : Int)) = false := by simp
    go_enter Tryz.func19, Tryz.ntmps19
    go_wp2_with fail
    go_loopw [13] (fun i wr => ∃ k j : Nat, k ≤ n ∧ i = .int .i64 k ∧ wr = w.drewN j ∧ Hid (∀ q, q < k → xs[q]? = ys[q]?)) (fun i _ => n - (intOf i).toNat)
    case atStart => exact ⟨0, 0, Nat.zero_le _, rfl, rfl, fun q h => absurd h (by omega)⟩
    obtain ⟨k, j, hk, rfl, rfl, HQ⟩ := hrel
    by_cases hlt : k < n
    · obtain ⟨ad, u, rfl, _, _, hu, hc⟩ := hx.at_ hlt
      obtain ⟨ad2, u2, rfl, _, _, hu2, hc2⟩ := hy.at_ hlt
      have l1 : k < xs.length := by rw [HLX.out]; exact hlt
      have l2 : k < ys.length := by rw [HLY.out]; exact hlt
      rw [ints_get xs _ l1] at hu
      rw [ints_get ys _ l2] at hu2
      injection hu with hu
      injection hu2 with hu2
      subst hu
      subst hu2
      have g1 := List.getElem?_eq_getElem l1
      have g2 := List.getElem?_eq_getElem l2
      generalize xs[k] = x at *
      generalize ys[k] = y at *
      have G1 := Lib.hid g1
      have G2 := Lib.hid g2
      clear g1 g2 l1 l2
      by_cases hxy : x = y
      · subst hxy
        have hxx : ((x : Int) != x) = false := by simp
        go_wp2_with fail
        go_quiet (fail)
        go_wp2_with fail
        go_roundw
        case rel =>
          refine ⟨k + 1, _, by omega, by go_num, rfl, ?_⟩
          intro q hq
          by_cases e : q = k
          · subst e; rw [G1.out, G2.out]
          · exact HQ q (by omega)
        case measure => simp [intOf]; omega
      · have hxx : (x != y) = true := by simpa using hxy
        go_wp2_with fail
        go_quiet (fail)
        go_wp2_with fail
        go_ret
        refine ⟨?_, _, World.drewN_drewN _ _ _⟩
        have : xs ≠ ys := by
          intro e
          have h1 := G1.out
          rw [e, G2.out] at h1
          injection h1 with h1
          exact hxy h1.symm
        simp [this]
    · obtain rfl : k = n := by omega
      go_wp2_with fail
      go_ret
      refine ⟨?_, _, rfl⟩
      have : xs = ys := by
        apply List.ext_getElem?
        intro q
        by_cases hq : q < k
        · exact HQ q hq
        · rw [List.getElem?_eq_none (by rw [HLX.out]; omega), List.getElem?_eq_none (by rw [HLY.out]; omega)]
      simp [this]
  · have hne : ((n : Int) != (m : Int)) = true := by simp; omega
    go_enter Tryz.func19, Tryz.ntmps19
    go_wp2_with fail
    go_ret
    refine ⟨?_, 0, rfl⟩
    have : xs ≠ ys := fun e => hnm (by rw [← hlx, ← hly, e])
    simp [this]

theorem belowN {B : Nat} {a w : World} (h : Below B a w) (n : Nat) : Below B a (w.drewN n) := ⟨h.os, h.tape, h.output, h.size, h.block⟩
theorem quiet_drawn {P : Program} {f : FuncId} {args : Array Value} {w : World} {n : Nat} {v : Value} (h : Calls P f args (w.drewN n) fun e w' => e = .returned v ∧ ∃ k, w' = (w.drewN n).drewN k) :
    Calls P f args (w.drewN n) fun e w'' => e = .returned v ∧ ∃ m, w'' = w.drewN m :=
  h.mono fun _ _ ⟨he, k, hk⟩ => ⟨he, n + k, by rw [hk, World.drewN_drewN]⟩
def pageVal (v : Value) (p : Page) : Value := .agg (pageCell v p).toArray
set_option maxRecDepth 100000 in
set_option maxHeartbeats 1000000 in
theorem spare1_any (w : World) (A : Option Addr) (c : Nat) (p : Page) (hp : p.tokens.length ≤ 1000000) :
    Calls Tryz.prog 125 #[pageVal (.slice A p.tokens.length c) p] w fun e w' => e = .returned (.bool (isFree p)) ∧ Below w.heap.size w w' := by
  have HF : Hid (isFree p = (decide (p.tokens.length = 0) && decide (p.owners = 0))) := Lib.hid rfl
  unfold pageVal pageCell
  generalize isFree p = f at *
  generalize p.tokens.length = n at *
  generalize p.owners = o at *
  by_cases h0 : n = 0
  · subst h0
    by_cases h1 : o = 0
    · subst h1
      go_enter Tryz.func125, Tryz.ntmps125
      go_wp2_with fail
      go_ret
      exact ⟨by rw [HF.out]; rfl, (Below.refl _ _).alloc (Nat.le_refl _) _⟩
    · have h1' : (o == 0) = false := by simpa using h1
      go_enter Tryz.func125, Tryz.ntmps125
      go_wp2_with fail
      go_ret
      exact ⟨by rw [HF.out]; simp [h1], (Below.refl _ _).alloc (Nat.le_refl _) _⟩
  · have h0' : ((n : Int) == 0) = false := by simpa using h0
    go_enter Tryz.func125, Tryz.ntmps125
    go_wp2_with fail
    go_ret
    exact ⟨by rw [HF.out]; simp [h0], (Below.refl _ _).alloc (Nat.le_refl _) _⟩
/-- what shared's closure finds in memory -/
structure Wants (W : World) (qr qw : Nat) (rb : Nat) (cs : Array Value) (e : Nat) (A : Option Addr) (n c : Nat) (want : List Int) : Prop where
  kr : Blk W qr 73 #[.pointer (some ⟨rb, 0, none⟩)]
  kw : Blk W qw 22 #[.slice A n c]
  ks : Blk W rb 75 cs
  ke : cs[8]? = some (.int .i64 e)
  kx : Reads W (fun _ => True) 1 A n (ints want)
set_option maxRecDepth 100000 in
set_option maxHeartbeats 1000000 in
theorem shared1_any (w : World) (qr qw rb : Nat) (cs : Array Value) (e : Nat) (A : Option Addr) (n c : Nat) (want : List Int) (h : Wants w qr qw rb cs e A n c want) (B : Option Addr) (d : Nat) (p : Page) (T : Nat → Prop)
    (hp : Reads w T 1 B p.tokens.length (ints p.tokens)) (hpl : p.tokens.length ≤ 1000000) :
    Calls Tryz.prog 92 #[pageVal (.slice B p.tokens.length d) p, .pointer (some ⟨qr, 0, none⟩), .pointer (some ⟨qw, 0, none⟩)] w fun en w' => en = .returned (.bool (decide ((p.start : Int) = e) && decide (p.tokens = want))) ∧ Below w.heap.size w w' := by
  have c8 : w.cell? ⟨rb, 8, none⟩ = some (.int .i64 e) := (h.ks.cell 8).trans h.ke
  have cr : w.cell? ⟨qr, 0, none⟩ = some (.pointer (some ⟨rb, 0, none⟩)) := h.kr.cell 0
  have cw : w.cell? ⟨qw, 0, none⟩ = some (.slice A n c) := h.kw.cell 0
  have hx := h.kx
  have z1 := h.kr.lt
  have z2 := h.kw.lt
  have z3 := h.ks.lt
  unfold pageVal pageCell
  generalize p.start = st at *
  generalize p.owners = o at *
  generalize p.used = us at *
  generalize p.tokens = tk at *
  generalize htn : tk.length = tn at *
  have HTN := Lib.hid htn
  clear htn h
  by_cases h0 : st = e
  · subst h0
    have hse : ((st : Int) == st) = true := by simp
    go_enter Tryz.func92, Tryz.ntmps92
    have hp1 := hp.alloc (.cells #[.int .i64 st, .slice B tn d, .int .i64 o, .int .i64 us] 106)
    have hx1 := hx.alloc (.cells #[.int .i64 st, .slice B tn d, .int .i64 o, .int .i64 us] 106)
    go_wp2_with fail
    go_quiet ((go_at_call 19; exact quiet_drawn (equal_any _ _ _ _ _ _ _ _ _ _ _ (hp1.drewN _) (hx1.drewN _) hpl)))
    go_wp2_with fail
    go_ret
    refine ⟨?_, ?_⟩
    · simp
    · exact belowN ((Below.refl _ _).alloc (Nat.le_refl _) _) _
  · have h0' : ((st : Int) == (e : Int)) = false := by simp; omega
    go_enter Tryz.func92, Tryz.ntmps92
    go_wp2_with fail
    go_quiet (fail)
    go_wp2_with fail
    go_ret
    refine ⟨?_, ?_⟩
    · have : decide ((st : Int) = e) = false := by simp; omega
      rw [this]; rfl
    · exact belowN ((Below.refl _ _).alloc (Nat.le_refl _) _) _
def idxOf (o : Option Nat) : Int := match o with | some k => k | none => -1
theorem idx_found (f : Page → Bool) (s : Srv) (k : Nat) (hk : k < s.pages.length) (hq : ∀ q, q < k → f (s.pg q) = false) (hf : f (s.pg k) = true) : s.pages.findIdx? f = some k := by
  have g : ∀ q (h : q < s.pages.length), s.pages[q] = s.pg q := fun q h => by have := s.pg_get q h; rw [List.getElem?_eq_getElem h] at this; injection this
  rw [List.findIdx?_eq_some_iff_getElem]
  refine ⟨hk, by rw [g k hk]; exact hf, fun j hj => ?_⟩
  rw [g j (by omega), hq j hj]
  simp
theorem idx_none (f : Page → Bool) (s : Srv) (hq : ∀ q, q < s.pages.length → f (s.pg q) = false) : s.pages.findIdx? f = none := by
  rw [List.findIdx?_eq_none_iff]
  intro x hx
  obtain ⟨q, hql, rfl⟩ := List.mem_iff_getElem.1 hx
  have := s.pg_get q hql
  rw [List.getElem?_eq_getElem hql] at this
  injection this with this
  rw [this]
  exact hq q hql

set_option maxRecDepth 100000 in
set_option maxHeartbeats 1000000 in
theorem index_shared (w : World) (own : Nat → Slot) (P : Ptrs) (s : Srv) (hl : s.pages.length ≤ 64) (cs : Array Value) (Inv : World → Prop) (h0 : Inv w) (hI : ∀ W W', Inv W → Below W.heap.size W W' → Inv W') (hR : ∀ W, Inv W → Rep W own P s) (f : Page → Bool)
    (hcall : ∀ W k A c, Inv W → k < s.pages.length → P.vpage k = .slice A (s.pg k).tokens.length c → Reads W (own · = .page k) 1 A (s.pg k).tokens.length (ints (s.pg k).tokens) →
      Calls Tryz.prog 92 (#[pageVal (.slice A (s.pg k).tokens.length c) (s.pg k)] ++ cs) W fun e W' => e = .returned (.bool (f (s.pg k))) ∧ Below W.heap.size W W') :
    Calls Tryz.prog 91 #[.slice (some ⟨P.pb, 0, none⟩) s.pages.length s.pages.length, .func (.func 92) #[] cs] w fun e w' => e = .returned (.int .i64 (idxOf (s.pages.findIdx? f))) ∧ Below w.heap.size w w' ∧ Inv w' := by
  have HC := Lib.hid hcall
  have HI := Lib.hid hI
  have HR := Lib.hid hR
  clear hcall hI hR
  obtain ⟨n, hn⟩ : ∃ n, n = s.pages.length := ⟨_, rfl⟩
  have HN := Lib.hid hn
  rw [← hn] at hl ⊢
  clear hn
  go_enter Tryz.func91, Tryz.ntmps91
  go_wp2_with fail
  go_loopw [8] (fun i wr => ∃ k : Nat, k ≤ n ∧ i = .int .i64 k ∧ Hid (∀ q, q < k → f (s.pg q) = false) ∧ Below w.heap.size w wr ∧ Inv wr) (fun i _ => n - (intOf i).toNat)
  case atStart => exact ⟨0, Nat.zero_le _, rfl, fun q h => absurd h (by omega), Below.refl _ _, h0⟩
  obtain ⟨k, hk, rfl, HQ, hb, hinv⟩ := hrel
  have HB := Lib.hid hb
  by_cases hlt : k < n
  · have hR := HR.out _ hinv
    have hkl : k < s.pages.length := by rw [← HN.out]; exact hlt
    have hpg := s.pg_get k hkl
    obtain ⟨A, c, hv, hc1, hc2⟩ := (hR.page k hkl).shape
    have hrd0 := hR.page k hkl
    rw [hv] at hrd0
    have hrd := hrd0.reads
    have hkk : s.pages[k] = s.pg k := by rw [List.getElem?_eq_getElem hkl] at hpg; injection hpg
    rw [hkk] at hv hrd
    have hcc := HC.out wr k A c hinv hkl hv hrd
    have p0 : wr.cell? ⟨P.pb, k * 4, none⟩ = some (.int .i64 (s.pg k).start) := hR.pcell k _ hpg 0 (by omega)
    have p1 : wr.cell? ⟨P.pb, k * 4 + 1, none⟩ = some (.slice A (s.pg k).tokens.length c) := by rw [← hv]; exact hR.pcell k _ hpg 1 (by omega)
    have p2 : wr.cell? ⟨P.pb, k * 4 + 2, none⟩ = some (.int .i64 (s.pg k).owners) := hR.pcell k _ hpg 2 (by omega)
    have p3 : wr.cell? ⟨P.pb, k * 4 + 3, none⟩ = some (.int .i64 (s.pg k).used) := hR.pcell k _ hpg 3 (by omega)
    unfold pageVal pageCell at hcc
    have HCC := Lib.hid hcc
    have HINV := Lib.hid hinv
    obtain ⟨b, hbf⟩ : ∃ b, b = f (s.pg k) := ⟨_, rfl⟩
    have HBF := Lib.hid hbf
    clear hcc hrd hrd0 hv hkk hpg hR hc1 hc2 hinv hb hkl hbf
    generalize (s.pg k).start = a0 at *
    generalize (s.pg k).tokens.length = a1 at *
    generalize (s.pg k).owners = a2 at *
    generalize (s.pg k).used = a3 at *
    go_wp2_with fail
    refine HCC.out.mono ?_
    rintro e w1 ⟨rfl, hb1⟩
    have hinv1 := HI.out _ _ HINV.out hb1
    have HINV1 := Lib.hid hinv1
    have hb2 := HB.out.trans (hb1.mono HB.out.size)
    have HB2 := Lib.hid hb2
    rw [← HBF.out]
    clear hinv1 hb1 hb2
    cases b
    · go_wp2_with fail
      go_roundw
      case rel =>
        refine ⟨k + 1, by omega, by go_num, fun q hq => ?_, HB2.out, HINV1.out⟩
        by_cases e : q = k
        · subst e; exact HBF.out.symm
        · exact HQ q (by omega)
      case measure => simp [intOf]; omega
    · go_wp2_with fail
      go_ret
      refine ⟨?_, HB2.out, HINV1.out⟩
      rw [idx_found f s k (by rw [← HN.out]; exact hlt) HQ HBF.out.symm]
      rfl
  · obtain rfl : k = n := by omega
    have HINV := Lib.hid hinv
    clear hinv hb
    go_wp2_with fail
    go_ret
    refine ⟨?_, HB.out, HINV.out⟩
    rw [idx_none f s fun q hq => HQ q (by rw [HN.out]; exact hq)]
    rfl

set_option maxRecDepth 100000 in
set_option maxHeartbeats 1000000 in
theorem index_spare (w : World) (own : Nat → Slot) (P : Ptrs) (s : Srv) (hl : s.pages.length ≤ 64) (cs : Array Value) (Inv : World → Prop) (h0 : Inv w) (hI : ∀ W W', Inv W → Below W.heap.size W W' → Inv W') (hR : ∀ W, Inv W → Rep W own P s) (f : Page → Bool)
    (hcall : ∀ W k A c, Inv W → k < s.pages.length → P.vpage k = .slice A (s.pg k).tokens.length c → Reads W (own · = .page k) 1 A (s.pg k).tokens.length (ints (s.pg k).tokens) →
      Calls Tryz.prog 125 (#[pageVal (.slice A (s.pg k).tokens.length c) (s.pg k)] ++ cs) W fun e W' => e = .returned (.bool (f (s.pg k))) ∧ Below W.heap.size W W') :
    Calls Tryz.prog 91 #[.slice (some ⟨P.pb, 0, none⟩) s.pages.length s.pages.length, .func (.func 125) #[] cs] w fun e w' => e = .returned (.int .i64 (idxOf (s.pages.findIdx? f))) ∧ Below w.heap.size w w' ∧ Inv w' := by
  have HC := Lib.hid hcall
  have HI := Lib.hid hI
  have HR := Lib.hid hR
  clear hcall hI hR
  obtain ⟨n, hn⟩ : ∃ n, n = s.pages.length := ⟨_, rfl⟩
  have HN := Lib.hid hn
  rw [← hn] at hl ⊢
  clear hn
  go_enter Tryz.func91, Tryz.ntmps91
  go_wp2_with fail
  go_loopw [8] (fun i wr => ∃ k : Nat, k ≤ n ∧ i = .int .i64 k ∧ Hid (∀ q, q < k → f (s.pg q) = false) ∧ Below w.heap.size w wr ∧ Inv wr) (fun i _ => n - (intOf i).toNat)
  case atStart => exact ⟨0, Nat.zero_le _, rfl, fun q h => absurd h (by omega), Below.refl _ _, h0⟩
  obtain ⟨k, hk, rfl, HQ, hb, hinv⟩ := hrel
  have HB := Lib.hid hb
  by_cases hlt : k < n
  · have hR := HR.out _ hinv
    have hkl : k < s.pages.length := by rw [← HN.out]; exact hlt
    have hpg := s.pg_get k hkl
    obtain ⟨A, c, hv, hc1, hc2⟩ := (hR.page k hkl).shape
    have hrd0 := hR.page k hkl
    rw [hv] at hrd0
    have hrd := hrd0.reads
    have hkk : s.pages[k] = s.pg k := by rw [List.getElem?_eq_getElem hkl] at hpg; injection hpg
    rw [hkk] at hv hrd
    have hcc := HC.out wr k A c hinv hkl hv hrd
    have p0 : wr.cell? ⟨P.pb, k * 4, none⟩ = some (.int .i64 (s.pg k).start) := hR.pcell k _ hpg 0 (by omega)
    have p1 : wr.cell? ⟨P.pb, k * 4 + 1, none⟩ = some (.slice A (s.pg k).tokens.length c) := by rw [← hv]; exact hR.pcell k _ hpg 1 (by omega)
    have p2 : wr.cell? ⟨P.pb, k * 4 + 2, none⟩ = some (.int .i64 (s.pg k).owners) := hR.pcell k _ hpg 2 (by omega)
    have p3 : wr.cell? ⟨P.pb, k * 4 + 3, none⟩ = some (.int .i64 (s.pg k).used) := hR.pcell k _ hpg 3 (by omega)
    unfold pageVal pageCell at hcc
    have HCC := Lib.hid hcc
    have HINV := Lib.hid hinv
    obtain ⟨b, hbf⟩ : ∃ b, b = f (s.pg k) := ⟨_, rfl⟩
    have HBF := Lib.hid hbf
    clear hcc hrd hrd0 hv hkk hpg hR hc1 hc2 hinv hb hkl hbf
    generalize (s.pg k).start = a0 at *
    generalize (s.pg k).tokens.length = a1 at *
    generalize (s.pg k).owners = a2 at *
    generalize (s.pg k).used = a3 at *
    go_wp2_with fail
    refine HCC.out.mono ?_
    rintro e w1 ⟨rfl, hb1⟩
    have hinv1 := HI.out _ _ HINV.out hb1
    have HINV1 := Lib.hid hinv1
    have hb2 := HB.out.trans (hb1.mono HB.out.size)
    have HB2 := Lib.hid hb2
    rw [← HBF.out]
    clear hinv1 hb1 hb2
    cases b
    · go_wp2_with fail
      go_roundw
      case rel =>
        refine ⟨k + 1, by omega, by go_num, fun q hq => ?_, HB2.out, HINV1.out⟩
        by_cases e : q = k
        · subst e; exact HBF.out.symm
        · exact HQ q (by omega)
      case measure => simp [intOf]; omega
    · go_wp2_with fail
      go_ret
      refine ⟨?_, HB2.out, HINV1.out⟩
      rw [idx_found f s k (by rw [← HN.out]; exact hlt) HQ HBF.out.symm]
      rfl
  · obtain rfl : k = n := by omega
    have HINV := Lib.hid hinv
    clear hinv hb
    go_wp2_with fail
    go_ret
    refine ⟨?_, HB.out, HINV.out⟩
    rw [idx_none f s fun q hq => HQ q (by rw [HN.out]; exact hq)]
    rfl

end Go.Proofs.YtedkfehdfmimoaaGreat

namespace Go.Proofs.YtedkfehdfmimoaaGreat
open Go.RowKit

def OptPost (o : Option Nat) (w : World) (e : Ending) (w' : World) : Prop := ∃ k : Int, e = .returned (.tuple #[.int .i64 k, .bool o.isSome]) ∧ (∀ j, o = some j → k = (j : Int)) ∧ Below w.heap.size w w'
theorem Wants.below {W W' : World} {qr qw rb : Nat} {cs : Array Value} {e : Nat} {A : Option Addr} {n c : Nat} {want : List Int} (h : Wants W qr qw rb cs e A n c want) (hb : Below W.heap.size W W') : Wants W' qr qw rb cs e A n c want :=
  ⟨h.kr.below hb h.kr.lt, h.kw.below hb h.kw.lt, h.ks.below hb h.ks.lt, h.ke, h.kx.fresh hb⟩
theorem wantIs_eq (p : Page) (e ps : Nat) (tk : List Int) : (decide ((p.start : Int) = e) && decide (p.tokens = (tk.drop e).take ps)) = wantIs e ps tk p := by
  unfold wantIs
  congr 1
  apply decide_eq_decide.2
  omega
theorem index_want (W : World) (own : Nat → Slot) (P : Ptrs) (s : Srv) (hpl : s.pages.length ≤ 64) (hpt : ∀ k, k < s.pages.length → (s.pg k).tokens.length ≤ 1000) (qr qw rb : Nat) (cs : Array Value) (e ps : Nat) (A : Option Addr) (n c : Nat) (tk : List Int)
    (h : Wants W qr qw rb cs e A n c ((tk.drop e).take ps)) (hr : Rep W own P s) :
    Calls Tryz.prog 91 #[.slice (some ⟨P.pb, 0, none⟩) s.pages.length s.pages.length, .func (.func 92) #[] #[.pointer (some ⟨qr, 0, none⟩), .pointer (some ⟨qw, 0, none⟩)]] W fun e' w' => e' = .returned (.int .i64 (idxOf (s.pages.findIdx? (wantIs e ps tk)))) ∧ Below W.heap.size W w' :=
  (index_shared W own P s hpl #[.pointer (some ⟨qr, 0, none⟩), .pointer (some ⟨qw, 0, none⟩)] (fun W => Wants W qr qw rb cs e A n c ((tk.drop e).take ps) ∧ Rep W own P s) ⟨h, hr⟩ (fun W W' h hb => ⟨h.1.below hb, h.2.fresh hb⟩) (fun W h => h.2) (wantIs e ps tk)
    (fun W k A' c' h hk hv hrd => (shared1_any W qr qw rb cs e A n c _ h.1 A' c' (s.pg k) _ hrd (by have := hpt k hk; omega)).mono fun e' w' ⟨h1, h2⟩ => ⟨by rw [h1, wantIs_eq], h2⟩)).mono fun _ _ ⟨h1, h2, _⟩ => ⟨h1, h2⟩

set_option maxRecDepth 100000 in
set_option maxHeartbeats 1000000 in
theorem shared_any (w : World) (own : Nat → Slot) (P : Ptrs) (s : Srv) (h : Rep w own P s) (i : Nat) (hi : i < s.reqs.length) (hps : 1 ≤ s.c.pageSize ∧ s.c.pageSize ≤ 8) (he : (s.req i).entries ≤ (s.req i).tokens.length) (ht : (s.req i).tokens.length ≤ 1000) (hpl : s.pages.length ≤ 64)
    (hpt : ∀ k, k < s.pages.length → (s.pg k).tokens.length ≤ 1000) :
    Calls Tryz.prog 70 #[.pointer (some ⟨P.sa, 0, none⟩), .pointer (some ⟨P.rb i, 0, none⟩)] w (OptPost (s.shared i) w) := by
  have hir := s.req_get i hi
  have hq := h.req i hi
  have hri : s.reqs[i] = s.req i := by rw [List.getElem?_eq_getElem hi] at hir; injection hir
  rw [hri] at hq
  obtain ⟨A, c, hv, hc1, hc2⟩ := hq.tokens.shape
  have c5 : w.cell? ⟨P.rb i, 5, none⟩ = some (.slice A (s.req i).tokens.length c) := by rw [← hv]; exact h.rcell i _ hir 5
  have c8 : w.cell? ⟨P.rb i, 8, none⟩ = some (.int .i64 (s.req i).entries) := h.rcell i _ hir 8
  have c12 : w.cell? ⟨P.sa, 12, none⟩ = some (.int .i64 s.c.pageSize) := h.scell 12
  have c18 : w.cell? ⟨P.sa, 18, none⟩ = some (.slice (some ⟨P.pb, 0, none⟩) s.pages.length s.pages.length) := h.scell 18
  have z1 := hq.blk.lt
  have z2 := h.server.lt
  have hrd := hq.tokens
  rw [hv] at hrd
  have hrd2 := hrd.reads
  have HS : Hid (s.shared i = if (s.req i).entries % s.c.pageSize ≠ 0 ∨ (s.req i).tokens.length < (s.req i).entries + s.c.pageSize then none else s.pages.findIdx? (wantIs (s.req i).entries s.c.pageSize (s.req i).tokens)) := Lib.hid rfl
  generalize s.shared i = o at *
  have HK := Lib.hid hq.blk
  have HPT := Lib.hid hpt
  have HR := Lib.hid h
  have HRD := Lib.hid hrd2
  obtain ⟨e, hee⟩ : ∃ e, e = (s.req i).entries := ⟨_, rfl⟩
  obtain ⟨tk, htk⟩ : ∃ tk, tk = (s.req i).tokens := ⟨_, rfl⟩
  obtain ⟨n, hn⟩ : ∃ n, n = tk.length := ⟨_, rfl⟩
  obtain ⟨ps, hpp⟩ : ∃ ps, ps = s.c.pageSize := ⟨_, rfl⟩
  rw [← hee] at c8 he HS
  rw [← htk, ← hn] at c5 he ht hc1
  rw [← htk, ← hn] at HRD
  rw [← hpp] at c12 hps
  rw [← htk, ← hn, ← hpp] at HS
  have HEE := Lib.hid hee
  have HN := Lib.hid hn
  have HTK := Lib.hid htk
  have HPP := Lib.hid hpp
  obtain ⟨hps1, hps2⟩ := hps
  unfold maxLen at hc2
  have hp0 : ¬ (ps : Int) = 0 := by omega
  clear hir hq hri hv hrd hrd2 hpt h hee htk hn hpp hi
  by_cases hm : e % ps = 0
  · have hm1 : ((e : Int) % (ps : Int) != 0) = false := by
      have : ((e % ps : Nat) : Int) = 0 := by omega
      simpa using this
    have hw1 : IntKind.i64.wrap ((e : Int) + ps) = (e : Int) + ps := IntWalk.i64_in _ (by omega)
    by_cases hl : n < e + ps
    · go_enter Tryz.func70, Tryz.ntmps70
      go_wp2_with fail
      go_quiet (fail)
      go_wp2_with fail
      go_ret2
      have : o = none := by rw [HS.out, if_pos (Or.inr hl)]
      rw [this]
      exact ⟨0, rfl, (by intro j h; cases h), belowN ((Below.refl _ _).alloc (Nat.le_refl _) _) _⟩
    · have hpos : 0 < n := by omega
      obtain ⟨ad, rfl, -⟩ := HRD.out.2 hpos
      have q0 : (0 : Int) ≤ e := by omega
      have q1 : (e : Int) ≤ (e : Int) + ps := by omega
      have q2 : (e : Int) + ps ≤ c := by omega
      have q3 : (0 : Int) ≤ (e : Int) + ps := by omega
      have q4 : ((e : Int) + ps).toNat = e + ps := by omega
      go_enter Tryz.func70, Tryz.ntmps70
      go_wp2_with fail
      go_quiet (fail)
      go_wp2_with fail
      go_region_held3 (fun w' => w'.cell? ⟨w.heap.size, 0, none⟩ = some (.pointer (some ⟨P.rb i, 0, none⟩)) ∧ w'.cell? ⟨P.rb i, 5, none⟩ = some (.slice (some ad) n c) ∧ w'.cell? ⟨P.rb i, 8, none⟩ = some (.int .i64 e)) (go_keep) (fail)
      go_wp2_with fail
      have kr : Blk (((w.alloc (.cells #[.pointer (some ⟨P.rb i, 0, none⟩)] 73)).drewN (nq + 1)).alloc (.cells #[.slice (some (ad.add e)) ps (c - e)] 22)) w.heap.size 73 #[.pointer (some ⟨P.rb i, 0, none⟩)] := ((Blk.new w _ _).drewN _).alloc _
      have kw : Blk (((w.alloc (.cells #[.pointer (some ⟨P.rb i, 0, none⟩)] 73)).drewN (nq + 1)).alloc (.cells #[.slice (some (ad.add e)) ps (c - e)] 22)) (w.heap.size + 1) 22 #[.slice (some (ad.add e)) ps (c - e)] := by
        have := Blk.new ((w.alloc (.cells #[.pointer (some ⟨P.rb i, 0, none⟩)] 73)).drewN (nq + 1)) 22 #[.slice (some (ad.add e)) ps (c - e)]
        simpa using this
      have kx : Reads w (fun _ => True) 1 (some (ad.add e)) ps (ints ((tk.drop e).take ps)) := by
        have h1 := (HRD.out.any.cut (k := e) (cap := c) (by omega) hc1).take (k := ps) (by omega)
        rw [if_neg (by omega)] at h1
        simpa [ints, Nat.mul_one, List.map_take, List.map_drop] using h1
      have hb0 : Below w.heap.size w (((w.alloc (.cells #[.pointer (some ⟨P.rb i, 0, none⟩)] 73)).drewN (nq + 1)).alloc (.cells #[.slice (some (ad.add e)) ps (c - e)] 22)) := (belowN ((Below.refl _ _).alloc (Nat.le_refl _) _) _).alloc (by simp) _
      have hinv : Wants (((w.alloc (.cells #[.pointer (some ⟨P.rb i, 0, none⟩)] 73)).drewN (nq + 1)).alloc (.cells #[.slice (some (ad.add e)) ps (c - e)] 22)) w.heap.size (w.heap.size + 1) (P.rb i) (reqCells P i (s.req i)) e (some (ad.add e)) ps (c - e) ((tk.drop e).take ps) :=
        ⟨kr, kw, HK.out.below hb0 z1, by rw [HEE.out]; rfl, kx.fresh hb0⟩
      have hrep := HR.out.fresh hb0
      have HIN := Lib.hid hinv
      have HRE := Lib.hid hrep
      have HB0 := Lib.hid hb0
      clear kr kw kx hb0 hinv hrep
      generalize (((w.alloc (.cells #[.pointer (some ⟨P.rb i, 0, none⟩)] 73)).drewN (nq + 1)).alloc (.cells #[.slice (some (ad.add e)) ps (c - e)] 22)) = W at *
      refine (index_want W own P s hpl HPT.out _ _ _ _ e ps _ _ _ tk HIN.out HRE.out).mono ?_
      rintro e' w1 ⟨rfl, hb1⟩
      have hres : o = s.pages.findIdx? (wantIs e ps tk) := by rw [HS.out, if_neg (by omega)]
      rw [← hres]
      clear HS
      have hb2 := HB0.out.trans (hb1.mono HB0.out.size)
      have HB2 := Lib.hid hb2
      clear hb1 hb2 hres hm1 hw1 q0 q1 q2 q3 q4 c5 c8 c12 c18
      cases o with
      | none =>
        have e1 : idxOf none = -1 := rfl
        rw [e1]
        clear e1
        go_wp2_with fail
        go_ret2
        exact ⟨-1, rfl, (by intro j h; cases h), HB2.out⟩
      | some k =>
        have e1 : idxOf (some k) = (k : Int) := rfl
        rw [e1]
        clear e1
        have hk0 : (0 : Int) ≤ k := by omega
        go_wp2_with fail
        go_ret2
        exact ⟨k, by simp, (by intro j h; injection h with h; rw [h]), HB2.out⟩
  · have hm1 : ((e : Int) % (ps : Int) != 0) = true := by
      have : ((e % ps : Nat) : Int) ≠ 0 := by omega
      simpa using this
    go_enter Tryz.func70, Tryz.ntmps70
    go_wp2_with fail
    go_quiet (fail)
    go_wp2_with fail
    go_ret2
    have : o = none := by rw [HS.out, if_pos (Or.inl hm)]
    rw [this]
    exact ⟨0, rfl, (by intro j h; cases h), belowN ((Below.refl _ _).alloc (Nat.le_refl _) _) _⟩
theorem bestTo_lt (l : List Page) : ∀ k b, bestTo l k = some b → b < k := by
  intro k
  induction k with
  | zero => intro b h; cases h
  | succ k ih =>
    intro b h
    simp only [bestTo] at h
    split at h
    · injection h with h; omega
    · have := ih b h; omega
set_option maxRecDepth 100000 in
set_option maxHeartbeats 2000000 in
theorem spare_any (w : World) (own : Nat → Slot) (P : Ptrs) (s : Srv) (h : Rep w own P s) (hpl : s.pages.length ≤ 64) (hpt : ∀ k, k < s.pages.length → (s.pg k).tokens.length ≤ 1000) :
    Calls Tryz.prog 115 #[.pointer (some ⟨P.sa, 0, none⟩)] w (OptPost s.spare w) := by
  have c18 : w.cell? ⟨P.sa, 18, none⟩ = some (.slice (some ⟨P.pb, 0, none⟩) s.pages.length s.pages.length) := h.scell 18
  have z2 := h.server.lt
  have z3 := h.pages.lt
  have HIX := Lib.hid (index_spare w own P s hpl #[] (fun W => Rep W own P s) h (fun W W' h hb => h.fresh hb) (fun W h => h) isFree
    (fun W k A' c' h hk hv hrd => spare1_any W A' c' (s.pg k) (by have := hpt k hk; omega)))
  have HSP : Hid (s.spare = match s.pages.findIdx? isFree with | some k => some k | none => bestTo s.pages s.pages.length) := Lib.hid rfl
  have HR := Lib.hid h
  have HPT := Lib.hid hpt
  clear h hpt
  generalize s.spare = o at *
  generalize s.pages.findIdx? isFree = fo at *
  go_enter Tryz.func115, Tryz.ntmps115
  go_wp2_with fail
  refine HIX.out.mono ?_
  rintro e w1 ⟨rfl, hb1, -⟩
  have c18' : w1.cell? ⟨P.sa, 18, none⟩ = some (.slice (some ⟨P.pb, 0, none⟩) s.pages.length s.pages.length) := by rw [hb1.cell (p := ⟨P.sa, 18, none⟩) z2]; exact c18
  have HB1 := Lib.hid hb1
  clear hb1 c18
  cases fo with
  | some k =>
    have e1 : idxOf (some k) = (k : Int) := rfl
    rw [e1]
    clear e1
    have hk0 : (0 : Int) ≤ k := by omega
    go_wp2_with fail
    go_ret2
    have ho : o = some k := HSP.out
    exact ⟨k, by rw [ho]; rfl, (by intro j h; rw [ho] at h; injection h with h; rw [h]), HB1.out⟩
  | none =>
    have ho : o = bestTo s.pages s.pages.length := HSP.out
    have HO := Lib.hid ho
    clear ho HSP
    have e1 : idxOf none = -1 := rfl
    rw [e1]
    clear e1
    obtain ⟨n, hn⟩ : ∃ n, n = s.pages.length := ⟨_, rfl⟩
    have HN := Lib.hid hn
    rw [← hn] at c18' hpl
    clear hn
    go_wp2_with fail
    go_loopw [5, 21] (fun b i wr => ∃ k : Nat, k ≤ n ∧ i = .int .i64 k ∧ b = .int .i64 (idxOf (bestTo s.pages k)) ∧ Below w1.heap.size w1 wr) (fun _ i _ => n - (intOf i).toNat)
    case atStart => exact ⟨0, Nat.zero_le _, rfl, rfl, Below.refl _ _⟩
    obtain ⟨k, hk, rfl, rfl, hb⟩ := hrel
    have hz1 := HB1.out.size
    have hzr := hb.size
    by_cases hlt : k < n
    · have hkl : k < s.pages.length := by rw [← HN.out]; exact hlt
      have hR := HR.out.fresh (HB1.out.trans (hb.mono HB1.out.size))
      have hpg := s.pg_get k hkl
      obtain ⟨A, c, hv, hc1, hc2⟩ := (hR.page k hkl).shape
      have hkk : s.pages[k] = s.pg k := by rw [List.getElem?_eq_getElem hkl] at hpg; injection hpg
      rw [hkk] at hv
      have p0 : wr.cell? ⟨P.pb, k * 4, none⟩ = some (.int .i64 (s.pg k).start) := hR.pcell k _ hpg 0 (by omega)
      have p1 : wr.cell? ⟨P.pb, k * 4 + 1, none⟩ = some (.slice A (s.pg k).tokens.length c) := by rw [← hv]; exact hR.pcell k _ hpg 1 (by omega)
      have p2 : wr.cell? ⟨P.pb, k * 4 + 2, none⟩ = some (.int .i64 (s.pg k).owners) := hR.pcell k _ hpg 2 (by omega)
      have p3 : wr.cell? ⟨P.pb, k * 4 + 3, none⟩ = some (.int .i64 (s.pg k).used) := hR.pcell k _ hpg 3 (by omega)
      have q18 : wr.cell? ⟨P.sa, 18, none⟩ = some (.slice (some ⟨P.pb, 0, none⟩) n n) := by rw [hb.cell (p := ⟨P.sa, 18, none⟩) (Nat.lt_of_lt_of_le z2 hz1)]; exact c18'
      have HNX : Hid (bestTo s.pages (k + 1) = if better s.pages (bestTo s.pages k) (s.pg k) then some k else bestTo s.pages k) := Lib.hid rfl
      have hbl := bestTo_lt s.pages k
      have HBT : ∀ b, bestTo s.pages k = some b → wr.cell? ⟨P.pb, b * 4 + 3, none⟩ = some (.int .i64 (s.pg b).used) := fun b hb' => hR.pcell b _ (s.pg_get b (by have := hbl b hb'; omega)) 3 (by omega)
      have HBET : Hid (better s.pages (bestTo s.pages k) (s.pg k) = (decide ((s.pg k).owners = 0) && match bestTo s.pages k with | none => true | some b => decide ((s.pg k).used < (s.pg b).used))) := Lib.hid rfl
      have HBB := Lib.hid hb
      clear hv hkk hpg hR hc1 hc2 hkl hb hzr
      have hzr : w1.heap.size ≤ wr.heap.size := HBB.out.size
      have zsa : P.sa < wr.heap.size := by omega
      have zpb : P.pb < wr.heap.size := by omega
      generalize better s.pages (bestTo s.pages k) (s.pg k) = bt at *
      generalize bestTo s.pages k = ob at *
      generalize (s.pg k).tokens.length = tl at *
      generalize (s.pg k).start = st at *
      generalize (s.pg k).owners = ow at *
      generalize (s.pg k).used = us at *
      cases ob with
      | none =>
        have e1 : idxOf none = -1 := rfl
        rw [e1]
        clear e1 HBT hbl
        by_cases ho : ow = 0
        · subst ho
          go_wp2_with fail
          go_quiet (fail)
          go_wp2_with fail
          go_roundw
          case rel =>
            have e : bestTo s.pages (k + 1) = some k := by rw [HNX.out, HBET.out]; simp
            exact ⟨k + 1, by omega, by go_num, by rw [e]; rfl, belowN (HBB.out.alloc hzr _) _⟩
          case measure => simp [intOf]; omega
        · have ho' : (ow == 0) = false := by simpa using ho
          go_wp2_with fail
          go_quiet (fail)
          go_wp2_with fail
          go_roundw
          case rel =>
            have e : bestTo s.pages (k + 1) = none := by rw [HNX.out, HBET.out]; simp [ho]
            exact ⟨k + 1, by omega, by go_num, by rw [e]; rfl, belowN (HBB.out.alloc hzr _) _⟩
          case measure => simp [intOf]; omega
      | some b =>
        have hb3 := HBT b rfl
        have hbk := hbl b rfl
        have e1 : idxOf (some b) = (b : Int) := rfl
        rw [e1]
        clear e1 HBT hbl
        have hb0 : (0 : Int) ≤ b := by omega
        have hbn : (b : Int) < n := by omega
        obtain ⟨ub, hub⟩ : ∃ ub, ub = (s.pg b).used := ⟨_, rfl⟩
        rw [← hub] at hb3
        have HUB := Lib.hid hub
        clear hub
        by_cases ho : ow = 0
        · subst ho
          by_cases hu : us < ub
          · have hu' : decide ((us : Int) < ub) = true := by simp; omega
            go_wp2_with fail
            go_quiet (fail)
            go_wp2_with fail
            go_roundw
            case rel =>
              have e : bestTo s.pages (k + 1) = some k := by rw [HNX.out, HBET.out]; simp [← HUB.out, hu]
              exact ⟨k + 1, by omega, by go_num, by rw [e]; rfl, belowN (HBB.out.alloc hzr _) _⟩
            case measure => simp [intOf]; omega
          · have hu' : decide ((us : Int) < ub) = false := by simp; omega
            go_wp2_with fail
            go_quiet (fail)
            go_wp2_with fail
            go_roundw
            case rel =>
              have e : bestTo s.pages (k + 1) = some b := by rw [HNX.out, HBET.out]; simp [← HUB.out, hu]
              exact ⟨k + 1, by omega, by go_num, by rw [e]; rfl, belowN (HBB.out.alloc hzr _) _⟩
            case measure => simp [intOf]; omega
        · have ho' : (ow == 0) = false := by simpa using ho
          go_wp2_with fail
          go_quiet (fail)
          go_wp2_with fail
          go_roundw
          case rel =>
            have e : bestTo s.pages (k + 1) = some b := by rw [HNX.out, HBET.out]; simp [ho]
            exact ⟨k + 1, by omega, by go_num, by rw [e]; rfl, belowN (HBB.out.alloc hzr _) _⟩
          case measure => simp [intOf]; omega
    · obtain rfl : k = n := by omega
      have HBB := Lib.hid hb
      have hbl := bestTo_lt s.pages k
      rw [← HN.out] at HO
      have ho := HO.out
      clear hb hzr
      rw [← ho] at hbl ⊢
      cases o with
      | none =>
        have e1 : idxOf none = -1 := rfl
        rw [e1]
        clear e1 hbl ho
        go_wp2_with fail
        go_ret2
        exact ⟨-1, rfl, (by intro j h; cases h), HB1.out.trans (HBB.out.mono hz1)⟩
      | some b =>
        have e1 : idxOf (some b) = (b : Int) := rfl
        rw [e1]
        clear e1 hbl ho
        have hb0 : (0 : Int) ≤ b := by omega
        go_wp2_with fail
        go_ret2
        exact ⟨b, by simp, (by intro j h; injection h with h; rw [h]), HB1.out.trans (HBB.out.mono hz1)⟩
end Go.Proofs.YtedkfehdfmimoaaGreat

namespace Go.Proofs.YtedkfehdfmimoaaGreat
open Go.RowKit

structure ReqOk (s : Srv) (r : Req) : Prop where
  id : 1 ≤ r.id ∧ r.id ≤ 1000000
  dl : 0 ≤ r.deadline ∧ r.deadline ≤ 1000000
  prompt : 1 ≤ r.prompt.length ∧ r.prompt.length ≤ 32
  most : 1 ≤ r.most ∧ r.most ≤ 32
  seed : -2147483648 ≤ r.seed ∧ r.seed ≤ 2147483647
  made : (r.made : Int) ≤ r.most
  yet : r.ended = false → (r.made : Int) < r.most
  tokens : r.tokens.length = r.prompt.length + r.made
  toks : ∀ t ∈ r.tokens, 0 ≤ t ∧ t < (s.M.vocab : Int)
  holds : ∀ k ∈ r.holds, 0 ≤ k ∧ k < (s.pages.length : Int)
  ent : r.entries ≤ r.tokens.length
  last : r.entries % s.c.pageSize ≠ 0 → r.holds ≠ []
  few : r.holds.length ≤ r.entries
  kept : -1 ≤ r.kept ∧ r.kept ≤ s.log.length
structure Srv.Ok (s : Srv) : Prop where
  M : s.M.Ok
  kind : s.M.kind = 1
  c : CConf.Ok s.c
  npages : s.pages.length = s.c.pages
  nreqs : s.reqs.length ≤ 12
  distinct : s.Distinct
  reqs : ∀ i, i < s.reqs.length → ReqOk s (s.req i)
  ptok : ∀ k, k < s.pages.length → (s.pg k).tokens.length ≤ s.c.pageSize
  records : s.records ≤ 10000
  now : s.now ≤ s.records + 1
  log : s.log.length ≤ 1000 + 500 * s.records

theorem Srv.req_setReq (s : Srv) (i : Nat) (r : Req) (j : Nat) (hi : i < s.reqs.length) : (s.setReq i r).req j = if i = j then r else s.req j := by
  unfold Srv.req Srv.setReq
  simp only [List.getD_eq_getElem?_getD, List.getElem?_set]
  by_cases e : i = j
  · subst e; simp [hi]
  · simp [e]
theorem Srv.pg_setPage (s : Srv) (k : Nat) (p : Page) (j : Nat) (hk : k < s.pages.length) : (s.setPage k p).pg j = if k = j then p else s.pg j := by
  unfold Srv.pg Srv.setPage
  simp only [List.getD_eq_getElem?_getD, List.getElem?_set]
  by_cases e : k = j
  · subst e; simp [hk]
  · simp [e]
theorem Srv.setReq_length (s : Srv) (i : Nat) (r : Req) : (s.setReq i r).reqs.length = s.reqs.length := by simp [Srv.setReq]
theorem Srv.setPage_length (s : Srv) (k : Nat) (p : Page) : (s.setPage k p).pages.length = s.pages.length := by simp [Srv.setPage]
theorem ReqOk.move {s s' : Srv} {r : Req} (h : ReqOk s r) (hM : s'.M = s.M) (hc : s'.c = s.c) (hp : s'.pages.length = s.pages.length) (hl : s.log.length ≤ s'.log.length) : ReqOk s' r :=
  ⟨h.id, h.dl, h.prompt, h.most, h.seed, h.made, h.yet, h.tokens, by rw [hM]; exact h.toks, by rw [hp]; exact h.holds, h.ent, by rw [hc]; exact h.last, h.few, h.kept.1, by have := h.kept.2; omega⟩
theorem Srv.Ok.setReq {s : Srv} (h : s.Ok) (i : Nat) (hi : i < s.reqs.length) (r : Req) (hid : r.id = (s.req i).id) (hr : ReqOk s r) : (s.setReq i r).Ok := by
  refine ⟨h.M, h.kind, h.c, h.npages, by rw [Srv.setReq_length]; exact h.nreqs, ?_, ?_, h.ptok, h.records, h.now, h.log⟩
  · intro a b ha hb e
    rw [Srv.setReq_length] at ha hb
    rw [Srv.req_setReq _ _ _ _ hi, Srv.req_setReq _ _ _ _ hi] at e
    refine h.distinct a b ha hb ?_
    by_cases ea : i = a
    · rw [if_pos ea] at e
      by_cases eb : i = b
      · rw [← ea, ← eb]
      · rw [if_neg eb] at e
        rw [← ea, ← hid]; exact e
    · rw [if_neg ea] at e
      by_cases eb : i = b
      · rw [if_pos eb] at e
        rw [← eb, ← hid]; exact e
      · rw [if_neg eb] at e
        exact e
  · intro j hj
    rw [Srv.setReq_length] at hj
    rw [Srv.req_setReq _ _ _ _ hi]
    split
    · exact hr.move rfl rfl rfl (Nat.le_refl _)
    · exact (h.reqs j hj).move rfl rfl rfl (Nat.le_refl _)
theorem Srv.Ok.withPages {s : Srv} (h : s.Ok) (l : List Page) (hl : l.length = s.pages.length) (ht : ∀ k, k < l.length → (l.getD k zeroPage).tokens.length ≤ s.c.pageSize) : ({ s with pages := l }).Ok :=
  ⟨h.M, h.kind, h.c, hl.trans h.npages, h.nreqs, h.distinct, fun i hi => (h.reqs i hi).move rfl rfl hl (Nat.le_refl _), ht, h.records, h.now, h.log⟩
theorem Srv.Ok.setPage {s : Srv} (h : s.Ok) (k : Nat) (hk : k < s.pages.length) (p : Page) (ht : p.tokens.length ≤ s.c.pageSize) : (s.setPage k p).Ok := by
  refine h.withPages _ (by simp) fun j hj => ?_
  have := Srv.pg_setPage s k p j hk
  unfold Srv.pg Srv.setPage at this
  dsimp only at this
  rw [this]
  split
  · exact ht
  · exact h.ptok j (by simpa using hj)
theorem backPage_tokens (ps : Nat) (p : Page) : (backPage ps p).tokens.length ≤ p.tokens.length := by
  unfold backPage
  split
  · exact Nat.zero_le _
  · exact Nat.le_refl _
theorem backPages_tokens (ps : Nat) (hs : List Int) (n : Nat) : ∀ l : List Page, (∀ k, k < l.length → (l.getD k zeroPage).tokens.length ≤ n) → ∀ k, k < l.length → ((backPages ps l hs).getD k zeroPage).tokens.length ≤ n := by
  induction hs with
  | nil => exact fun l h => h
  | cons x hs ih =>
    intro l h k hk
    show ((backPages ps _ hs).getD k zeroPage).tokens.length ≤ n
    refine ih _ (fun j hj => ?_) k (by simpa using hk)
    simp only [List.length_set] at hj
    rw [List.getD_eq_getElem?_getD, List.getElem?_set]
    by_cases e : x.toNat = j
    · subst e
      rw [if_pos rfl, if_pos hj]
      exact Nat.le_trans (backPage_tokens _ _) (h _ hj)
    · rw [if_neg e]
      have := h j hj
      rwa [List.getD_eq_getElem?_getD] at this
/-- a request without pages -/
theorem ReqOk.bare {s : Srv} {r : Req} (h : ReqOk s r) (en lo : Bool) (e kp : Int) (hen : en = false → r.ended = false) (hk : -1 ≤ kp ∧ kp ≤ s.log.length) : ReqOk s { r with holds := [], entries := 0, ended := en, err := e, kept := kp, lost := lo } :=
  ⟨h.id, h.dl, h.prompt, h.most, h.seed, h.made, fun h1 => h.yet (hen h1), h.tokens, h.toks, fun k hk => (by cases hk), Nat.zero_le _, fun h => absurd (Nat.zero_mod _) h, Nat.le_refl _, hk⟩
theorem giveBack_pages {s : Srv} (h : s.Ok) (i : Nat) : ({ s with pages := backPages s.c.pageSize s.pages (s.req i).holds }).Ok :=
  h.withPages _ (backPages_length _ _ _) fun k hk => backPages_tokens _ _ _ _ h.ptok k (by rwa [backPages_length] at hk)
theorem Srv.Ok.giveBack {s : Srv} (h : s.Ok) (i : Nat) (hi : i < s.reqs.length) : (s.giveBack i).Ok :=
  (giveBack_pages h i).setReq i hi _ rfl (((h.reqs i hi).bare (s.req i).ended (s.req i).lost (s.req i).err (s.req i).kept id (h.reqs i hi).kept).move rfl rfl (backPages_length _ _ _) (Nat.le_refl _))
theorem giveBack_setReq (s : Srv) (i : Nat) (r : Req) : (s.giveBack i).setReq i r = ({ s with pages := backPages s.c.pageSize s.pages (s.req i).holds }).setReq i r := by
  unfold Srv.giveBack Srv.setReq
  simp
theorem Srv.Ok.end_ {s : Srv} (h : s.Ok) (i : Nat) (hi : i < s.reqs.length) (e : Int) : (s.end_ i e).Ok := by
  unfold Srv.end_
  rw [giveBack_setReq]
  exact (giveBack_pages h i).setReq i hi _ rfl (((h.reqs i hi).bare true (s.req i).lost e (-1) (fun h => by cases h) ⟨by omega, by omega⟩).move rfl rfl (backPages_length _ _ _) (Nat.le_refl _))
theorem Srv.Ok.lose {s : Srv} (h : s.Ok) (i : Nat) (hi : i < s.reqs.length) : (s.lose i).Ok := by
  unfold Srv.lose
  rw [giveBack_setReq]
  exact (giveBack_pages h i).setReq i hi _ rfl (((h.reqs i hi).bare (s.req i).ended true (s.req i).err (s.req i).kept id (h.reqs i hi).kept).move rfl rfl (backPages_length _ _ _) (Nat.le_refl _))
theorem Srv.giveBack_length (s : Srv) (i : Nat) : (s.giveBack i).reqs.length = s.reqs.length := by simp [Srv.giveBack]
theorem Srv.end_length (s : Srv) (i : Nat) (e : Int) : (s.end_ i e).reqs.length = s.reqs.length := by simp [Srv.end_, Srv.setReq, Srv.giveBack]
theorem Srv.lose_length (s : Srv) (i : Nat) : (s.lose i).reqs.length = s.reqs.length := by simp [Srv.lose, Srv.setReq, Srv.giveBack]
end Go.Proofs.YtedkfehdfmimoaaGreat

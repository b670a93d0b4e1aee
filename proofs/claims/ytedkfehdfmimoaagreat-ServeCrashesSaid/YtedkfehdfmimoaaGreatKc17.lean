/- The server's steps as functions. How the pages' memory turns. -/
import Derived.Test.YtedkfehdfmimoaaGreatKc13
import Derived.Test.YtedkfehdfmimoaaGreatKc15
import Derived.Test.YtedkfehdfmimoaaGreatKc16
import Derived.Test.YtedkfehdfmimoaaGreatKc10
namespace Go.Proofs.YtedkfehdfmimoaaGreat
open Go.RowKit

def zeroPage : Page := ⟨0, [], 0, 0⟩
def zeroReq : Req := ⟨0, 0, [], 0, 0, [], 0, [], 0, false, 0, 0, false, false⟩
def Srv.req (s : Srv) (i : Nat) : Req := s.reqs.getD i zeroReq
def Srv.setReq (s : Srv) (i : Nat) (r : Req) : Srv := { s with reqs := s.reqs.set i r }
def Srv.setPage (s : Srv) (k : Nat) (p : Page) : Srv := { s with pages := s.pages.set k p }
def Srv.pg (s : Srv) (k : Nat) : Page := s.pages.getD k zeroPage

def backPage (ps : Nat) (p : Page) : Page := if wrap64 (p.owners - 1) = 0 ∧ p.tokens.length < ps then zeroPage else { p with owners := wrap64 (p.owners - 1) }
def backPages (ps : Nat) (l : List Page) (hs : List Int) : List Page := hs.foldl (fun l k => l.set k.toNat (backPage ps (l.getD k.toNat zeroPage))) l
def Srv.giveBack (s : Srv) (i : Nat) : Srv :=
  { s with pages := backPages s.c.pageSize s.pages (s.req i).holds, reqs := s.reqs.set i { s.req i with holds := [], entries := 0 } }
def Srv.end_ (s : Srv) (i : Nat) (e : Int) : Srv := (s.giveBack i).setReq i { s.req i with holds := [], entries := 0, ended := true, err := e, kept := -1 }
def settleReq (n : Nat) (r : Req) : Req := if r.kept < 0 then { r with kept := n } else r
def Srv.settle (s : Srv) : Srv := { s with reqs := s.reqs.map (settleReq s.log.length) }
def wantIs (e ps : Nat) (tokens : List Int) (p : Page) : Bool := decide (p.start = e) && decide (p.tokens = (tokens.drop e).take ps)
def Srv.shared (s : Srv) (i : Nat) : Option Nat :=
  if (s.req i).entries % s.c.pageSize ≠ 0 ∨ (s.req i).tokens.length < (s.req i).entries + s.c.pageSize then none
  else s.pages.findIdx? (wantIs (s.req i).entries s.c.pageSize (s.req i).tokens)
def isFree (p : Page) : Bool := decide (p.tokens.length = 0) && decide (p.owners = 0)
def better (l : List Page) (b : Option Nat) (p : Page) : Bool := decide (p.owners = 0) && match b with | none => true | some b => decide (p.used < (l.getD b zeroPage).used)
def bestTo (l : List Page) : Nat → Option Nat
  | 0 => none
  | k + 1 => if better l (bestTo l k) (l.getD k zeroPage) then some k else bestTo l k
def Srv.spare (s : Srv) : Option Nat := match s.pages.findIdx? isFree with | some k => some k | none => bestTo s.pages s.pages.length
def skips (r : Req) : Bool := r.holds.isEmpty || r.worked
def lastTo (s : Srv) (b : List Nat) : Nat → Option Nat
  | 0 => none
  | n + 1 => if skips (s.req (b.getD n 0)) then lastTo s b n else some n
def Srv.lose (s : Srv) (i : Nat) : Srv := (s.giveBack i).setReq i { s.req i with holds := [], entries := 0, lost := true }
def Srv.pageL : Nat → Srv → List Nat → Srv × Option Nat
  | 0, s, _ => (s, none)
  | f + 1, s, b => match s.spare with
    | some k => (s.setPage k zeroPage, some k)
    | none => match lastTo s b b.length with
      | none => (s, none)
      | some j => Srv.pageL f (s.lose (b.getD j 0)) b
def Srv.page (s : Srv) (b : List Nat) : Srv × Option Nat := Srv.pageL (b.length + 1) s b
def fillN (ps : Nat) (p : Page) (r : Req) : Nat := min (ps - p.tokens.length) (r.tokens.length - r.entries)
def fillPage (n : Nat) (r : Req) (p : Page) : Page := { p with tokens := p.tokens ++ (r.tokens.drop r.entries).take n }
def Srv.fill (s : Srv) (i k : Nat) : Srv :=
  { s with pages := s.pages.set k { fillPage (fillN s.c.pageSize (s.pg k) (s.req i)) (s.req i) (s.pg k) with used := s.now },
           reqs := s.reqs.set i { s.req i with entries := (s.req i).entries + fillN s.c.pageSize (s.pg k) (s.req i), worked := true } }
def Srv.open1 (s : Srv) (i k : Nat) : Srv := (s.setPage k ⟨(s.req i).entries, [], 1, 0⟩).setReq i { s.req i with holds := (s.req i).holds ++ [(k : Int)] }
def Srv.compute (s : Srv) (i : Nat) (b : List Nat) : Srv :=
  if (s.req i).entries % s.c.pageSize = 0 then
    match s.page b with
    | (s1, none) => s1
    | (s1, some k) => (s1.open1 i k).fill i k
  else s.fill i ((s.req i).holds.getLastD 0).toNat
def entriesOf (M : Model) (l : List Int) : List (List Int) := l.zipIdx.map fun x => M.entry x.1.toNat x.2
def nextTok (M : Model) (r : Req) : Int := M.next (entriesOf M r.tokens) (drawF r.seed r.made)
def Srv.made1 (s : Srv) (i : Nat) : Srv := s.setReq i { s.req i with tokens := (s.req i).tokens ++ [nextTok s.M (s.req i)], made := (s.req i).made + 1, worked := true }
def Srv.next (s : Srv) (i : Nat) : Srv :=
  if nextTok s.M (s.req i) = 0 ∨ ((s.req i).made : Int) + 1 = (s.req i).most then (s.made1 i).end_ i 0 else s.made1 i
def Srv.takeP (s : Srv) (i k : Nat) : Srv :=
  (s.setPage k { s.pg k with owners := wrap64 ((s.pg k).owners + 1), used := s.now }).setReq i { s.req i with holds := (s.req i).holds ++ [(k : Int)], entries := (s.req i).entries + s.c.pageSize }
def Srv.shareL : Nat → Srv → Nat → Srv
  | 0, s, _ => s
  | f + 1, s, i => match s.shared i with
    | none => s
    | some k => Srv.shareL f (s.takeP i k) i
def Srv.share (s : Srv) (i : Nat) : Srv := Srv.shareL ((s.req i).tokens.length + 1) s i
def Srv.work2 (s : Srv) (i : Nat) (b : List Nat) : Srv := if (s.req i).entries < (s.req i).tokens.length then s.compute i b else s.next i
def Srv.work (s : Srv) (i : Nat) (b : List Nat) : Srv := (s.share i).work2 i b
def Srv.before (s : Srv) (i j : Nat) : Bool := decide ((s.req i).deadline < (s.req j).deadline ∨ ((s.req i).deadline = (s.req j).deadline ∧ (s.req i).id < (s.req j).id))
def Srv.open_ (s : Srv) : List Nat := isort s.before ((List.range s.reqs.length).filter fun i => !(s.req i).ended)
def Srv.late1 (s : Srv) (i : Nat) : Srv :=
  if (s.req i).deadline < s.now then (s.setReq i { s.req i with worked := false, lost := false }).end_ i 18 else s.setReq i { s.req i with worked := false, lost := false }
def Srv.late (s : Srv) : Srv := s.open_.foldl Srv.late1 s
def Srv.workL : List Nat → Nat → Srv → Srv
  | [], _, s => s
  | i :: b, n, s => if s.c.batch ≤ n then s else if (s.req i).lost then Srv.workL b n s else
      Srv.workL b (if ((s.work i b).req i).worked then n + 1 else n) (s.work i b)
def Srv.tick1 (s : Srv) : Srv := ({ s with now := s.now + 1 }).late
def Srv.tick2 (s : Srv) : Srv := Srv.workL s.tick1.open_ 0 s.tick1
def Srv.tick (s : Srv) : Srv := (s.tick2.rec_ [4]).settle
def Srv.find (s : Srv) (id : Int) : Option Nat := s.reqs.findIdx? fun r => decide (r.id = id)
def Srv.cancel (s : Srv) (id : Int) : Srv × Int := match s.find id with
  | none => (s, 13)
  | some i => if (s.req i).ended then (s, 17) else (((s.end_ i 19).rec_ [2, id]).settle, 0)
/-- What a call of Submit brings. -/
structure Ask where
  id : Int
  deadline : Int
  prompt : List Int
  most : Int
  seed : Int
def newReq (r : Ask) : Req := ⟨r.id, r.deadline, r.prompt, r.most, r.seed, r.prompt, 0, [], 0, false, 0, 0, false, false⟩
def Srv.accErr (s : Srv) (r : Ask) : Int :=
  if ¬ (1 ≤ r.id ∧ r.id ≤ 1000000 ∧ 0 ≤ r.deadline ∧ r.deadline ≤ 1000000 ∧ 1 ≤ r.most ∧ r.most ≤ 32 ∧ -2147483648 ≤ r.seed ∧ r.seed ≤ 2147483647) then 9
  else if ¬ (1 ≤ r.prompt.length ∧ r.prompt.length ≤ 32) then 3
  else if r.prompt.any (fun t => !decide (0 ≤ t ∧ t ≤ (s.M.vocab : Int) - 1)) then 9
  else if (s.find r.id).isSome then 6
  else if r.deadline ≤ s.now then 18
  else if (s.c.pages * s.c.pageSize : Int) < r.prompt.length + r.most then 2
  else if s.c.queue ≤ s.open_.length then 16
  else 0
def askWords (r : Ask) : List Int := [1, r.id, r.deadline, r.most, r.seed, (r.prompt.length : Int)] ++ r.prompt
def Srv.submit (s : Srv) (r : Ask) : Srv × Int :=
  if s.accErr r = 0 then (({ s with reqs := s.reqs ++ [newReq r] }).rec_ (askWords r), 0) else (s, s.accErr r)
def Srv.told (s : Srv) (r : Req) : Bool := r.ended && (s.replay || decide (r.kept ≤ s.synced))
end Go.Proofs.YtedkfehdfmimoaaGreat

namespace Go.Proofs.YtedkfehdfmimoaaGreat
open Go.RowKit

section
variable {w w' : World} {own own' : Nat → Slot} {P : Ptrs} {s : Srv}

theorem pagesFrom_length (f : Nat → Value) (l : List Page) : ∀ n, (pagesFrom f n l).length = 4 * l.length := by
  induction l with
  | nil => exact fun _ => rfl
  | cons p l ih => intro n; simp [pagesFrom, ih, pageCell]; omega
theorem pagesFrom_get (f : Nat → Value) (l : List Page) : ∀ (n k : Nat) (p : Page) (j : Nat), l[k]? = some p → j < 4 → (pagesFrom f n l)[k * 4 + j]? = (pageCell (f (n + k)) p)[j]? := by
  induction l with
  | nil => intro n k p j h; simp at h
  | cons q l ih =>
    intro n k p j h hj
    match k, h with
    | 0, h =>
      simp at h
      subst h
      simp only [pagesFrom]
      rw [List.getElem?_append_left (by simp [pageCell]; omega)]
      simp
    | k + 1, h =>
      simp only [pagesFrom]
      rw [List.getElem?_append_right (by simp [pageCell]; omega)]
      have e : (k + 1) * 4 + j - (pageCell (f n) q).length = k * 4 + j := by simp [pageCell]; omega
      rw [e, ih (n + 1) k p j (by simpa using h) hj, show n + 1 + k = n + (k + 1) by omega]
theorem pagesFrom_far (f : Nat → Value) (v : Value) (m : Nat) (l : List Page) : ∀ n, m < n → pagesFrom (setAt f m v) n l = pagesFrom f n l := by
  induction l with
  | nil => exact fun _ _ => rfl
  | cons p l ih =>
    intro n hn
    simp only [pagesFrom]
    rw [ih (n + 1) (by omega), show setAt f m v n = f n from if_neg (by omega)]
theorem pagesFrom_set (f : Nat → Value) (v' : Value) (l : List Page) : ∀ (n k : Nat) (p p' : Page) (j : Nat) (u : Value), l[k]? = some p → j < 4 → (pageCell (f (n + k)) p).set j u = pageCell v' p' → (pagesFrom f n l).set (k * 4 + j) u = pagesFrom (setAt f (n + k) v') n (l.set k p') := by
  induction l with
  | nil => intro n k p p' j u h; simp at h
  | cons q l ih =>
    intro n k p p' j u h hj hc
    match k, h with
    | 0, h =>
      simp at h
      subst h
      simp only [pagesFrom, List.set_cons_zero]
      rw [Nat.add_zero] at hc
      rw [List.set_append_left _ _ (by simp [pageCell]; omega), Nat.zero_mul, Nat.zero_add, show setAt f (n + 0) v' = setAt f n v' from rfl, pagesFrom_far f v' n l (n + 1) (by omega), show setAt f n v' n = v' from if_pos rfl]
      rw [hc]
    | k + 1, h =>
      simp only [pagesFrom, List.set_cons_succ]
      rw [List.set_append_right _ _ (by simp [pageCell]; omega)]
      have e : (k + 1) * 4 + j - (pageCell (f n) q).length = k * 4 + j := by simp [pageCell]; omega
      rw [e, ih (n + 1) k p p' j u (by simpa using h) hj (by rw [show n + 1 + k = n + (k + 1) by omega]; exact hc), show n + 1 + k = n + (k + 1) by omega, show setAt f (n + (k + 1)) v' n = f n from if_neg (by omega)]

theorem pageCell_size (v : Value) (p : Page) : (pageCell v p).length = 4 := rfl
/-- a page's row turns, and one cell of the page. -/
theorem Rep.newPage (h : Rep w own P s) (k j : Nat) (p p' : Page) (hk : s.pages[k]? = some p) (hj : j < 4) {v' u : Value} (k0 : Keeps (fun g => own g = .page k) w w') (ho : ∀ g, g < w.heap.size → own' g = own g)
    (hbe : ∀ g, w'.heap.size ≤ g → own' g = .other) (hown : Own w' (own' · = .page k) 3 1 v' p'.tokens.length (ints p'.tokens)) (hc : (pageCell (P.vpage k) p).set j u = pageCell v' p') (m : Nat) :
    Rep (w'.setCell ⟨P.pb, k * 4 + j, none⟩ u) own' { P with vpage := setAt P.vpage k v' } (s.setPage k p') ∧ Step w own P (w'.setCell ⟨P.pb, k * 4 + j, none⟩ u) own' { P with vpage := setAt P.vpage k v' } m := by
  have hz := h.pages.lt
  have k1 : Keeps (fun g => own g = .page k ∨ own g = .pages) w (w'.setCell ⟨P.pb, k * 4 + j, none⟩ u) := Keeps.setCell (S := fun g => own g = .page k ∨ own g = .pages) (k0.mono fun i _ e => Or.inl e) (p := ⟨P.pb, k * 4 + j, none⟩) (fun _ => Or.inr h.opages) u
  have hne : ∀ {sl : Slot}, sl ≠ .page k → sl ≠ .pages → ∀ g, own g = sl → ¬ (own g = .page k ∨ own g = .pages) := fun h1 h2 g e e' => e'.elim (fun x => h1 (e.symm.trans x)) (fun x => h2 (e.symm.trans x))
  have hb1 := (k0.blk h.pages (by rw [h.opages]; intro e; cases e)).set_ (k * 4 + j) u
  have hsz : (w'.setCell ⟨P.pb, k * 4 + j, none⟩ u).heap.size = w'.heap.size := by simp
  have hset := pagesFrom_set P.vpage v' s.pages 0 k p p' j u hk hj (by rw [Nat.zero_add]; exact hc)
  rw [Nat.zero_add] at hset
  refine ⟨⟨?_, (ho _ h.server.lt).trans h.oserver, h.map.keep (k1.block _ h.map.lt (hne (by intro h; cases h) (by intro h; cases h) _ h.omap)), (ho _ h.map.lt).trans h.omap,
    fun i hi => ((h.req i hi).step k1 ho fun g e => by rcases e with e | e | e | e <;> exact hne (by intro h; cases h) (by intro h; cases h) g e).move rfl rfl rfl rfl, ?_, (ho _ hz).trans h.opages, fun i hi => ?_,
    h.log.step k1 ho (hne (by intro h; cases h) (by intro h; cases h)), h.model.step k1 ho (hne (by intro h; cases h) (by intro h; cases h)), ?_⟩, ?_, ho, rfl, fun _ _ => rfl, rfl, rfl⟩
  · have := k1.blk h.server (hne (by intro h; cases h) (by intro h; cases h) _ h.oserver)
    unfold serverCells Srv.setPage
    simp only [List.length_set]
    exact this
  · show Blk _ P.pb _ (pagesFrom (setAt P.vpage k v') 0 (s.pages.set k p')).toArray
    rw [← hset]
    have : (pageCells P s.pages).toArray.setIfInBounds (k * 4 + j) u = ((pagesFrom P.vpage 0 s.pages).set (k * 4 + j) u).toArray := by simp [pageCells]
    rw [← this]
    exact hb1
  · have hil : i < s.pages.length := by simpa [Srv.setPage] using hi
    have hq : (s.setPage k p').pages[i]? = some (s.setPage k p').pages[i] := List.getElem?_eq_getElem hi
    show Own _ _ _ _ (setAt P.vpage k v' i) _ _
    generalize (s.setPage k p').pages[i] = q at hq ⊢
    unfold Srv.setPage at hq
    simp only [List.getElem?_set] at hq
    by_cases e : k = i
    · subst e
      rw [show setAt P.vpage k v' k = v' from if_pos rfl]
      rw [if_pos rfl, if_pos hil] at hq
      injection hq with hq
      subst hq
      refine Own.setCell hown (p := ⟨P.pb, k * 4 + j, none⟩) ?_ u
      show ¬ own' P.pb = .page k
      rw [ho _ hz, h.opages]
      intro e; cases e
    · rw [show setAt P.vpage k v' i = P.vpage i from if_neg (Ne.symm e)]
      rw [if_neg e, List.getElem?_eq_getElem hil] at hq
      injection hq with hq
      subst hq
      exact (h.page i hil).step k1 ho (hne (by intro h; cases h; exact e rfl) (by intro h; cases h))
  · intro g hg
    rw [hsz] at hg
    exact hbe g hg
  · exact k1.mono fun i _ e => by rcases e with e | e <;> rw [e] <;> intro h <;> cases h
theorem setAt_same (f : Nat → Value) (k : Nat) : setAt f k (f k) = f := by
  funext i
  unfold setAt
  split
  · rename_i h; rw [h]
  · rfl
/-- one cell of a page turns; its row is the same or nil. -/
theorem Rep.pageCell_ (h : Rep w own P s) (k j : Nat) (p p' : Page) (hk : s.pages[k]? = some p) (hj : j < 4) {v' u : Value} (hv : (v' = P.vpage k ∧ p'.tokens = p.tokens) ∨ (v' = .slice none 0 0 ∧ p'.tokens = []))
    (hc : (pageCell (P.vpage k) p).set j u = pageCell v' p') (m : Nat) :
    Rep (w.setCell ⟨P.pb, k * 4 + j, none⟩ u) own { P with vpage := setAt P.vpage k v' } (s.setPage k p') ∧ Step w own P (w.setCell ⟨P.pb, k * 4 + j, none⟩ u) own { P with vpage := setAt P.vpage k v' } m := by
  refine h.newPage k j p p' hk hj (Keeps.refl _ w) (fun _ _ => rfl) h.beyond ?_ hc m
  obtain ⟨hkl, hkr⟩ := List.getElem?_eq_some_iff.1 hk
  rcases hv with ⟨rfl, e⟩ | ⟨rfl, e⟩
  · rw [e, ← hkr]; exact h.page k hkl
  · rw [e]; exact Own.nil_ w _ _ _
theorem Rep.pageSame (h : Rep w own P s) (k j : Nat) (p p' : Page) (hk : s.pages[k]? = some p) (hj : j < 4) {u : Value} (ht : p'.tokens = p.tokens) (hc : (pageCell (P.vpage k) p).set j u = pageCell (P.vpage k) p') (m : Nat) :
    Rep (w.setCell ⟨P.pb, k * 4 + j, none⟩ u) own P (s.setPage k p') ∧ Step w own P (w.setCell ⟨P.pb, k * 4 + j, none⟩ u) own P m := by
  have := h.pageCell_ k j p p' hk hj (.inl ⟨rfl, ht⟩) hc m
  rwa [setAt_same] at this
/-- a page is written anew, without tokens. -/
theorem Rep.putPage (h : Rep w own P s) (k : Nat) (hk : k < s.pages.length) (st us : Nat) (ow : Int) (m : Nat) :
    Rep ((((w.setCell ⟨P.pb, k * 4, none⟩ (.int .i64 st)).setCell ⟨P.pb, k * 4 + 1, none⟩ (.slice none 0 0)).setCell ⟨P.pb, k * 4 + 2, none⟩ (.int .i64 ow)).setCell ⟨P.pb, k * 4 + 3, none⟩ (.int .i64 us)) own { P with vpage := setAt P.vpage k (.slice none 0 0) } (s.setPage k ⟨st, [], ow, us⟩) ∧
      Step w own P ((((w.setCell ⟨P.pb, k * 4, none⟩ (.int .i64 st)).setCell ⟨P.pb, k * 4 + 1, none⟩ (.slice none 0 0)).setCell ⟨P.pb, k * 4 + 2, none⟩ (.int .i64 ow)).setCell ⟨P.pb, k * 4 + 3, none⟩ (.int .i64 us)) own { P with vpage := setAt P.vpage k (.slice none 0 0) } m := by
  have hp : s.pages[k]? = some s.pages[k] := List.getElem?_eq_getElem hk
  obtain ⟨a1, a2⟩ := h.pageSame k 0 _ { s.pages[k] with start := st } hp (by omega) (u := .int .i64 st) rfl rfl m
  generalize s.pages[k] = p at *
  have g1 : (s.setPage k { p with start := st }).pages[k]? = some { p with start := st } := List.getElem?_set_self hk
  obtain ⟨b1, b2⟩ := a1.pageCell_ k 1 _ ⟨st, [], p.owners, p.used⟩ g1 (by omega) (v' := .slice none 0 0) (u := .slice none 0 0) (.inr ⟨rfl, rfl⟩) rfl m
  have e1 : (s.setPage k { p with start := st }).setPage k ⟨st, [], p.owners, p.used⟩ = s.setPage k ⟨st, [], p.owners, p.used⟩ := by simp [Srv.setPage]
  rw [e1] at b1
  have g2 : (s.setPage k ⟨st, [], p.owners, p.used⟩).pages[k]? = some ⟨st, [], p.owners, p.used⟩ := List.getElem?_set_self hk
  obtain ⟨c1, c2⟩ := b1.pageSame k 2 _ ⟨st, [], ow, p.used⟩ g2 (by omega) (u := .int .i64 ow) rfl rfl m
  have e2 : (s.setPage k ⟨st, [], p.owners, p.used⟩).setPage k ⟨st, [], ow, p.used⟩ = s.setPage k ⟨st, [], ow, p.used⟩ := by simp [Srv.setPage]
  rw [e2] at c1
  have g3 : (s.setPage k ⟨st, [], ow, p.used⟩).pages[k]? = some ⟨st, [], ow, p.used⟩ := List.getElem?_set_self hk
  obtain ⟨d1, d2⟩ := c1.pageSame k 3 _ ⟨st, [], ow, us⟩ g3 (by omega) (u := .int .i64 us) rfl rfl m
  have e3 : (s.setPage k ⟨st, [], ow, p.used⟩).setPage k ⟨st, [], ow, us⟩ = s.setPage k ⟨st, [], ow, us⟩ := by simp [Srv.setPage]
  rw [e3] at d1
  exact ⟨d1, ((a2.trans b2 (Nat.le_refl _)).trans c2 (Nat.le_refl _)).trans d2 (Nat.le_refl _)⟩
theorem Rep.newPageTokens (h : Rep w own P s) (k : Nat) (p : Page) (hk : s.pages[k]? = some p) {v' : Value} {l' : List Int} {n' : Nat} (happ : Appended w w' (fun g => own g = .page k) 3 1 (P.vpage k) v' n' (ints l')) (hn : n' = l'.length) (m : Nat) :
    Rep (w'.setCell ⟨P.pb, k * 4 + 1, none⟩ v') (extOwn w w' own (.page k)) { P with vpage := setAt P.vpage k v' } (s.setPage k { p with tokens := l' }) ∧
      Step w own P (w'.setCell ⟨P.pb, k * 4 + 1, none⟩ v') (extOwn w w' own (.page k)) { P with vpage := setAt P.vpage k v' } m := by
  subst hn
  obtain ⟨hkl, hkr⟩ := List.getElem?_eq_some_iff.1 hk
  have hp := h.page k hkl
  obtain ⟨hown, hgr, -⟩ := happ
  have k0 : Keeps (fun g => own g = .page k) w w' := (Keeps.refl _ w).grown hgr fun g hg hlt => hp.2 g hg
  refine h.newPage k 1 p { p with tokens := l' } hk (by omega) k0 (fun g hg => extOwn_old hg) (fun g hg => extOwn_beyond h.beyond k0.size hg) ((hown.more fun g _ hg => ?_).ext) rfl m
  rcases hg with hg | hg
  · exact Or.inl hg
  · exact Or.inr (by omega)
end
end Go.Proofs.YtedkfehdfmimoaaGreat

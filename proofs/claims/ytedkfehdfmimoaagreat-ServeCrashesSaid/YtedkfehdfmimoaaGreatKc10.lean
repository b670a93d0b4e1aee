/- The server's state, and how a world holds it. The laws of the server's map. How the server's memory turns. How a request's memory turns. The entry of a token, and Entry. Insertion sort, as the library's insertionSortCmpFunc does it; it sorts. No program in sight. The library's insertion sort, at rows of numbers and of pointers. cmp.Compare, slices.Max, rank. sample. -/
import Derived.Test.YtedkfehdfmimoaaGreatKc5
import Derived.Test.YtedkfehdfmimoaaGreatKc7
import Derived.Maps.RangeWalk
import Derived.Maps.OwnOps
import Derived.Test.YtedkfehdfmimoaaGreatKc6
import Derived.Test.YtedkfehdfmimoaaGreatRows
import Derived.Test.YtedkfehdfmimoaaGreatKc1
import Derived.Deep.RegionHeld3
namespace Go.Proofs.YtedkfehdfmimoaaGreat
open Go.RowKit

structure CConf where
  pages : Nat
  pageSize : Nat
  batch : Nat
  queue : Nat
structure CConf.Ok (c : CConf) : Prop where
  pages : 1 ≤ c.pages ∧ c.pages ≤ 64
  pageSize : 1 ≤ c.pageSize ∧ c.pageSize ≤ 8
  batch : 1 ≤ c.batch ∧ c.batch ≤ 16
  queue : 1 ≤ c.queue ∧ c.queue ≤ 32
structure Page where
  start : Nat
  tokens : List Int
  owners : Int
  used : Nat
structure Req where
  id : Int
  deadline : Int
  prompt : List Int
  most : Int
  seed : Int
  tokens : List Int
  made : Nat
  holds : List Int
  entries : Nat
  ended : Bool
  err : Int
  kept : Int
  worked : Bool
  lost : Bool
structure Srv where
  M : Model
  c : CConf
  now : Nat
  reqs : List Req
  pages : List Page
  log : List Int
  records : Nat
  synced : Nat
  replay : Bool

/-- What a block of memory is for. -/
inductive Slot where
  | other | server | map | req (i : Nat) | tokens (i : Nat) | holds (i : Nat) | prompt | model | pages | page (k : Nat) | log
deriving DecidableEq

/-- Where the parts lie. -/
structure Ptrs where
  sa : Nat
  ma : Nat
  pb : Nat
  rb : Nat → Nat
  vtok : Nat → Value
  vhold : Nat → Value
  vprompt : Nat → Value
  vpage : Nat → Value
  vlog : Value
  v4 : Value
  v5 : Value
  v6 : Value
  v7 : Value
  v8 : Value
  v9 : Value
  v10 : Value

def ReqR (v : Value) : Option (DataW Unit × List MemPlace) :=
  match v with
  | .pointer none => some (.lit (.int .i64 (-1)), [])
  | .pointer (some ⟨g, 0, none⟩) => some (.lit (.int .i64 g), [])
  | _ => none
/-- The map's block holds these keys, each with a block's number. -/
def MapIs (w : World) (b : Nat) (m : List (Int × Nat)) : Prop :=
  ∃ D : DataW Unit, w.ownsMap Tryz.prog 3 ReqR b m.length D ∧ (∀ k : Int, D.atKey (.int .i64 k) (.lit (.int .i64 (-1))) = .lit (.int .i64 (match m.lookup k with | some g => (g : Int) | none => -1))) ∧
    (∀ kl, Maps.has D kl = true → ∃ p ∈ m, kl = .int .i64 p.1) ∧ ∀ p ∈ m, Maps.has D (.int .i64 p.1) = true

def serverCells (P : Ptrs) (s : Srv) : Array Value :=
  #[.int .i64 s.M.kind, .int .i64 s.M.vocab, .int .i64 s.M.width, .int .i64 s.M.top, P.v4, P.v5, P.v6, P.v7, P.v8, P.v9, P.v10,
    .int .i64 s.c.pages, .int .i64 s.c.pageSize, .int .i64 s.c.batch, .int .i64 s.c.queue, .int .i64 s.M.vocab, .int .i64 s.now, .map (some P.ma),
    .slice (some ⟨P.pb, 0, none⟩) s.pages.length s.pages.length, P.vlog, .int .i64 s.records, .int .i64 s.synced, .bool s.replay]
def reqCells (P : Ptrs) (i : Nat) (r : Req) : Array Value :=
  #[.int .i64 r.id, .int .i64 r.deadline, P.vprompt i, .int .i64 r.most, .int .i64 r.seed, P.vtok i, .int .i64 r.made, P.vhold i, .int .i64 r.entries, .bool r.ended, .int .i64 r.err, .int .i64 r.kept, .bool r.worked, .bool r.lost]
def pageCell (v : Value) (p : Page) : List Value := [.int .i64 p.start, v, .int .i64 p.owners, .int .i64 p.used]
def pagesFrom (f : Nat → Value) : Nat → List Page → List Value
  | _, [] => []
  | n, p :: l => pageCell (f n) p ++ pagesFrom f (n + 1) l
def pageCells (P : Ptrs) (l : List Page) : List Value := pagesFrom P.vpage 0 l

structure ReqRep (w : World) (own : Nat → Slot) (P : Ptrs) (i : Nat) (r : Req) : Prop where
  blk : Blk w (P.rb i) 75 (reqCells P i r)
  oreq : own (P.rb i) = .req i
  prompt : Slc w (own · = .prompt) (P.vprompt i) r.prompt
  tokens : Own w (own · = .tokens i) 3 1 (P.vtok i) r.tokens.length (ints r.tokens)
  holds : Own w (own · = .holds i) 3 1 (P.vhold i) r.holds.length (ints r.holds)

structure Rep (w : World) (own : Nat → Slot) (P : Ptrs) (s : Srv) : Prop where
  server : Blk w P.sa 70 (serverCells P s)
  oserver : own P.sa = .server
  map : MapIs w P.ma ((s.reqs.zipIdx).map fun x => (x.1.id, P.rb x.2))
  omap : own P.ma = .map
  req : ∀ i (h : i < s.reqs.length), ReqRep w own P i s.reqs[i]
  pages : Blk w P.pb 106 (pageCells P s.pages).toArray
  opages : own P.pb = .pages
  page : ∀ k (h : k < s.pages.length), Own w (own · = .page k) 3 1 (P.vpage k) s.pages[k].tokens.length (ints s.pages[k].tokens)
  log : Own w (own · = .log) 5 1 P.vlog s.log.length (bytes s.log)
  model : MSl w (own · = .model) s.M P.v4 P.v5 P.v6 P.v7 P.v8 P.v9 P.v10
  beyond : ∀ g, w.heap.size ≤ g → own g = .other

/-- What a step of the server leaves as it was: all that is not the server's; what each old block is for; where the server and the old requests lie. -/
structure Step (w : World) (own : Nat → Slot) (P : Ptrs) (w' : World) (own' : Nat → Slot) (P' : Ptrs) (n : Nat) : Prop where
  keeps : Keeps (fun g => own g ≠ .other) w w'
  old : ∀ g, g < w.heap.size → own' g = own g
  sa : P'.sa = P.sa
  rb : ∀ i, i < n → P'.rb i = P.rb i
  pb : P'.pb = P.pb
  ma : P'.ma = P.ma
theorem Step.refl (w : World) (own : Nat → Slot) (P : Ptrs) (n : Nat) : Step w own P w own P n := ⟨Keeps.refl _ _, fun _ _ => rfl, rfl, fun _ _ => rfl, rfl, rfl⟩
theorem Step.trans {w w1 w2 : World} {o o1 o2 : Nat → Slot} {P P1 P2 : Ptrs} {n m : Nat} (h : Step w o P w1 o1 P1 n) (k : Step w1 o1 P1 w2 o2 P2 m) (hnm : n ≤ m) : Step w o P w2 o2 P2 n :=
  ⟨h.keeps.trans k.keeps (fun i hi hs => by rw [h.old i hi] at hs; exact hs), fun g hg => (k.old g (Nat.lt_of_lt_of_le hg h.keeps.size)).trans (h.old g hg), k.sa.trans h.sa, fun i hi => (k.rb i (by omega)).trans (h.rb i hi), k.pb.trans h.pb, k.ma.trans h.ma⟩
end Go.Proofs.YtedkfehdfmimoaaGreat

namespace Go.Proofs.YtedkfehdfmimoaaGreat
open Go.RowKit

theorem intKeyed : Maps.Keyed Tryz.prog 3 := Maps.int_keyed Tryz.underlying3
theorem MapIs.keep {w w' : World} {b : Nat} {m : List (Int × Nat)} (h : MapIs w b m) (hk : w'.heap[b]? = w.heap[b]?) : MapIs w' b m := by
  obtain ⟨D, ⟨es, clock, h1, h2⟩, h3⟩ := h
  exact ⟨D, ⟨es, clock, hk.trans h1, h2⟩, h3⟩
theorem MapIs.lt {w : World} {b : Nat} {m : List (Int × Nat)} (h : MapIs w b m) : b < w.heap.size := by
  obtain ⟨D, h, -⟩ := h
  exact h.lt
theorem MapIs.new (w : World) : MapIs (w.alloc (.map #[] 0)) w.heap.size [] :=
  ⟨.map [], World.ownsMap_made w _ _ _, fun k => rfl, fun kl h => by simp [Maps.has] at h, fun p h => by simp at h⟩
theorem ReqR_inv {v : Value} {x : Int} {ps : List MemPlace} (h : ReqR v = some (.lit (.int .i64 x), ps)) : (x = -1 ∧ v = .pointer none) ∨ ∃ g : Nat, x = g ∧ v = .pointer (some ⟨g, 0, none⟩) := by
  unfold ReqR at h
  split at h
  · left
    simp at h
    exact ⟨h.1.symm, rfl⟩
  · right
    simp at h
    exact ⟨_, h.1.symm, rfl⟩
  · simp at h
theorem pointer_zero (w : World) : (zeroValue 73).run Tryz.prog w = .ok (.pointer none) w := by
  have h : (Tryz.prog.info? 73).map (·.zero) = some (some (.pointer none)) := by kernel_rfl
  cases hi : Tryz.prog.info? 73 with
  | none => rw [hi] at h; simp at h
  | some i =>
    rw [hi] at h
    simp at h
    simp [zeroValue, typeInfo, hi, h]
theorem MapIs.look {w : World} {b : Nat} {m : List (Int × Nat)} (h : MapIs w b m) (k : Int) (hk : (Lit.int .i64 k).wf = true) :
    (Instr.lookup 67 (.map (some b)) (.int .i64 k) false).run Tryz.prog w = .ok (match m.lookup k with | some g => .pointer (some ⟨g, 0, none⟩) | none => .pointer none) w := by
  obtain ⟨D, h1, h2, -⟩ := h
  have hkey : keyOf Tryz.prog 3 (.int .i64 k) = some (.int .i64 k) := by simp [keyOf, Tryz.underlying3, mapKey, hk]
  obtain ⟨v, ps, hrun, hv⟩ := h1.lookup intKeyed Tryz.underlying67 (pointer_zero w) (zd := .lit (.int .i64 (-1))) (zp := []) rfl hkey
  rw [h2 k] at hv
  rw [hrun]
  cases hm : m.lookup k with
  | none =>
    rw [hm] at hv
    rcases ReqR_inv hv with ⟨-, rfl⟩ | ⟨g, hg, -⟩
    · rfl
    · dsimp only at hg; omega
  | some g =>
    rw [hm] at hv
    rcases ReqR_inv hv with ⟨hx, -⟩ | ⟨g', hg, rfl⟩
    · dsimp only at hx; omega
    · dsimp only at hg
      have : g = g' := by omega
      subst this
      rfl
theorem MapIs.put {w : World} {b : Nat} {m : List (Int × Nat)} (h : MapIs w b m) (k : Int) (hk : (Lit.int .i64 k).wf = true) (g : Nat) (hn : m.lookup k = none) (hl : m.length < 1000000) :
    ∃ w', (Instr.mapUpdate 67 (.map (some b)) (.int .i64 k) (.pointer (some ⟨g, 0, none⟩))).run Tryz.prog w = .ok () w' ∧ MapIs w' b (m ++ [(k, g)]) ∧ w.grownBy w' (some b) := by
  obtain ⟨D, h1, h2, h3, h4⟩ := h
  have hkey : keyOf Tryz.prog 3 (.int .i64 k) = some (.int .i64 k) := by simp [keyOf, Tryz.underlying3, mapKey, hk]
  obtain ⟨es, hD, -, -⟩ := h1.entries intKeyed
  have hmap : Maps.IsMap D := ⟨es, hD⟩
  have hkl := intKeyed.key hkey
  obtain ⟨w', hrun, ho, hg⟩ := h1.update intKeyed Tryz.underlying67 (by unfold maxLen; omega) hkey (val := .pointer (some ⟨g, 0, none⟩)) (d := .lit (.int .i64 g)) (ps := []) rfl
  refine ⟨w', hrun, ⟨_, by simpa using ho, ?_, ?_, ?_⟩, hg⟩
  · intro k'
    by_cases e : k' = k
    · subst e
      rw [Maps.atKey_put_same hmap hkl]
      have : (m ++ [(k', g)]).lookup k' = some g := by
        rw [List.lookup_append, hn]; simp
      rw [this]
    · rw [Maps.atKey_put_other (by intro h; injection h with _ h; exact e h), h2 k']
      have : (m ++ [(k, g)]).lookup k' = m.lookup k' := by
        rw [List.lookup_append]
        have : List.lookup k' [(k, g)] = none := by simp [List.lookup, show (k' == k) = false by simpa using e]
        rw [this]
        simp
      rw [this]
  · intro kl hkl'
    by_cases e : kl = .int .i64 k
    · exact ⟨(k, g), by simp, e⟩
    · rw [Maps.has_put_other e] at hkl'
      obtain ⟨p, hp, rfl⟩ := h3 kl hkl'
      exact ⟨p, by simp [hp], rfl⟩
  · intro p hp
    rcases List.mem_append.1 hp with hp | hp
    · by_cases e : p.1 = k
      · rw [e]; exact Maps.has_put_same hmap hkl _
      · rw [Maps.has_put_other (by intro h; injection h with _ h; exact e h)]
        exact h4 p hp
    · simp at hp
      subst hp
      exact Maps.has_put_same hmap hkl _
end Go.Proofs.YtedkfehdfmimoaaGreat

namespace Go.Proofs.YtedkfehdfmimoaaGreat
open Go.RowKit

section
variable {w w' : World} {own own' : Nat → Slot} {P : Ptrs} {s : Srv} {S : Nat → Prop}

theorem Slc.step {sl : Slot} {v : Value} {xs : List Int} (h : Slc w (own · = sl) v xs) (k : Keeps S w w') (ho : ∀ g, g < w.heap.size → own' g = own g) (hs : ∀ g, own g = sl → ¬ S g) : Slc w' (own' · = sl) v xs :=
  ((h.more (T' := fun g => own g = sl ∧ g < w.heap.size) fun g hg e => ⟨e, hg⟩).keeps k fun g e => hs g e.1).more fun g _ e => (ho g e.2).trans e.1
theorem Own.step {sl : Slot} {e : TypeId} {size n : Nat} {v : Value} {xs : List Value} (h : Own w (own · = sl) e size v n xs) (k : Keeps S w w') (ho : ∀ g, g < w.heap.size → own' g = own g) (hs : ∀ g, own g = sl → ¬ S g) : Own w' (own' · = sl) e size v n xs :=
  ((h.more (T' := fun g => own g = sl ∧ g < w.heap.size) fun g hg e => ⟨e, hg⟩).keeps k fun g e => hs g e.1).more fun g _ e => (ho g e.2).trans e.1
theorem MSl.step {sl : Slot} {M : Model} {v4 v5 v6 v7 v8 v9 v10 : Value} (h : MSl w (own · = sl) M v4 v5 v6 v7 v8 v9 v10) (k : Keeps S w w') (ho : ∀ g, g < w.heap.size → own' g = own g) (hs : ∀ g, own g = sl → ¬ S g) : MSl w' (own' · = sl) M v4 v5 v6 v7 v8 v9 v10 :=
  ⟨h.cuts.step k ho hs, h.embed.step k ho hs, h.place.step k ho hs, h.mix.step k ho hs, h.out.step k ho hs, h.soft.step k ho hs, h.odds.step k ho hs⟩
theorem ReqRep.step {i : Nat} {r : Req} (h : ReqRep w own P i r) (k : Keeps S w w') (ho : ∀ g, g < w.heap.size → own' g = own g) (hs : ∀ g, own g = .prompt ∨ own g = .tokens i ∨ own g = .holds i ∨ own g = .req i → ¬ S g) : ReqRep w' own' P i r :=
  ⟨k.blk h.blk (hs _ (by simp [h.oreq])), (ho _ h.blk.lt).trans h.oreq, h.prompt.step k ho fun g e => hs g (by simp [e]), h.tokens.step k ho fun g e => hs g (by simp [e]), h.holds.step k ho fun g e => hs g (by simp [e])⟩

theorem ReqRep.move {i : Nat} {r : Req} {P' : Ptrs} (h : ReqRep w own P i r) (h1 : P'.rb i = P.rb i) (h2 : P'.vtok i = P.vtok i) (h3 : P'.vhold i = P.vhold i) (h4 : P'.vprompt i = P.vprompt i) : ReqRep w own P' i r := by
  refine ⟨?_, ?_, ?_, ?_, ?_⟩
  · rw [h1, show reqCells P' i r = reqCells P i r by unfold reqCells; rw [h2, h3, h4]]; exact h.blk
  · rw [h1]; exact h.oreq
  · rw [h4]; exact h.prompt
  · rw [h2]; exact h.tokens
  · rw [h3]; exact h.holds
/-- What lies in memory that did not turn stays. -/
theorem Rep.fresh (h : Rep w own P s) (k : Below w.heap.size w w') : Rep w' own P s := by
  have kk : Keeps (fun _ => False) w w' := Keeps.of_below k _
  have ho : ∀ g, g < w.heap.size → own g = own g := fun _ _ => rfl
  exact ⟨kk.blk h.server id, h.oserver, h.map.keep (k.block _ h.map.lt), h.omap, fun i hi => (h.req i hi).step kk ho fun _ _ => id, kk.blk h.pages id, h.opages,
    fun i hi => (h.page i hi).step kk ho fun _ _ => id, h.log.step kk ho fun _ _ => id, h.model.step kk ho fun _ _ => id, fun g hg => h.beyond g (Nat.le_trans k.size hg)⟩
theorem Rep.alloc (h : Rep w own P s) (o : Obj) : Rep (w.alloc o) own P s := h.fresh ((Below.refl _ _).alloc (Nat.le_refl _) o)
theorem Rep.drew (h : Rep w own P s) : Rep w.drew own P s := h.fresh ⟨rfl, rfl, rfl, Nat.le_refl _, fun _ _ => rfl⟩
theorem Rep.drewN (h : Rep w own P s) (n : Nat) : Rep (w.drewN n) own P s := h.fresh ⟨rfl, rfl, rfl, Nat.le_refl _, fun _ _ => rfl⟩

/-- The server's own cells turn. -/
theorem Rep.setServer (h : Rep w own P s) (j : Nat) (u : Value) (s' : Srv) (hM : s'.M = s.M) (hr : s'.reqs = s.reqs) (hp : s'.pages = s.pages) (hl : s'.log = s.log)
    (hc : (serverCells P s).setIfInBounds j u = serverCells P s') : Rep (w.setCell ⟨P.sa, j, none⟩ u) own P s' := by
  have kk : Keeps (· = P.sa) w (w.setCell ⟨P.sa, j, none⟩ u) := Keeps.setCell (p := ⟨P.sa, j, none⟩) (Keeps.refl (· = P.sa) w) (fun _ => rfl) u
  have ho : ∀ g, g < w.heap.size → own g = own g := fun _ _ => rfl
  have hn : ∀ {sl : Slot}, sl ≠ .server → ∀ g, own g = sl → ¬ g = P.sa := fun hsl g e e' => by subst e'; rw [h.oserver] at e; exact hsl e.symm
  refine ⟨?_, h.oserver, ?_, h.omap, fun i hi => ?_, ?_, h.opages, fun i hi => ?_, ?_, ?_, fun g hg => h.beyond g (Nat.le_trans kk.size hg)⟩
  · rw [← hc]; exact h.server.set_ j u
  · rw [hr]; exact h.map.keep (kk.block _ h.map.lt (hn (by intro h; cases h) _ h.omap))
  · simp only [hr] at hi ⊢
    exact (h.req i hi).step kk ho fun g e => by rcases e with e | e | e | e <;> exact hn (by intro h; cases h) g e
  · rw [hp]; exact kk.blk h.pages (hn (by intro h; cases h) _ h.opages)
  · simp only [hp] at hi ⊢
    exact (h.page i hi).step kk ho (hn (by intro h; cases h))
  · rw [hl]; exact h.log.step kk ho (hn (by intro h; cases h))
  · rw [hM]; exact h.model.step kk ho (hn (by intro h; cases h))
def extOwn (w w' : World) (own : Nat → Slot) (sl : Slot) (g : Nat) : Slot := if w.heap.size ≤ g ∧ g < w'.heap.size then sl else own g
theorem extOwn_old {sl : Slot} {g : Nat} (h : g < w.heap.size) : extOwn w w' own sl g = own g := if_neg (by omega)
theorem extOwn_beyond {sl : Slot} (hb : ∀ g, w.heap.size ≤ g → own g = .other) (hs : w.heap.size ≤ w'.heap.size) {g : Nat} (h : w'.heap.size ≤ g) : extOwn w w' own sl g = .other := by
  unfold extOwn
  rw [if_neg (by omega)]
  exact hb g (by omega)
theorem Own.ext {sl : Slot} {e : TypeId} {size n : Nat} {v : Value} {xs : List Value} (h : Own w' (fun g => own g = sl ∨ w.heap.size ≤ g) e size v n xs) : Own w' (extOwn w w' own sl · = sl) e size v n xs :=
  h.more fun g hg hT => by
    unfold extOwn
    by_cases hw : w.heap.size ≤ g
    · rw [if_pos ⟨hw, hg⟩]
    · rw [if_neg (by omega)]
      rcases hT with h | h
      · exact h
      · omega
theorem Rep.newLog (h : Rep w own P s) {v' : Value} {l' : List Int} {n' : Nat} (happ : Appended w w' (fun g => own g = .log) 5 1 P.vlog v' n' (bytes l')) (hn : n' = l'.length) (m : Nat) :
    Rep (w'.setCell ⟨P.sa, 19, none⟩ v') (extOwn w w' own .log) { P with vlog := v' } { s with log := l' } ∧ Step w own P (w'.setCell ⟨P.sa, 19, none⟩ v') (extOwn w w' own .log) { P with vlog := v' } m := by
  subst hn
  obtain ⟨hown, hgr, -⟩ := happ
  have hz := h.server.lt
  have k0 : Keeps (fun g => own g = .log) w w' := (Keeps.refl _ w).grown hgr fun g hg hlt => h.log.2 g hg
  have k1 : Keeps (fun g => own g = .log ∨ own g = .server) w (w'.setCell ⟨P.sa, 19, none⟩ v') := Keeps.setCell (S := fun g => own g = .log ∨ own g = .server) (k0.mono fun i _ e => Or.inl e) (p := ⟨P.sa, 19, none⟩) (fun _ => Or.inr h.oserver) v'
  have ho : ∀ g, g < w.heap.size → extOwn w w' own .log g = own g := fun g hg => extOwn_old hg
  have hne : ∀ {sl : Slot}, sl ≠ .log → sl ≠ .server → ∀ g, own g = sl → ¬ (own g = .log ∨ own g = .server) := fun h1 h2 g e e' => e'.elim (fun x => h1 (e.symm.trans x)) (fun x => h2 (e.symm.trans x))
  have hb1 := (k0.blk h.server (by rw [h.oserver]; intro e; cases e)).set_ 19 v'
  have hsz : (w'.setCell ⟨P.sa, 19, none⟩ v').heap.size = w'.heap.size := by simp
  refine ⟨⟨hb1, (ho _ hz).trans h.oserver, h.map.keep (k1.block _ h.map.lt (hne (by intro h; cases h) (by intro h; cases h) _ h.omap)), (ho _ h.map.lt).trans h.omap,
    fun i hi => ((h.req i hi).step k1 ho fun g e => by rcases e with e | e | e | e <;> exact hne (by intro h; cases h) (by intro h; cases h) g e).move rfl rfl rfl rfl,
    k1.blk h.pages (hne (by intro h; cases h) (by intro h; cases h) _ h.opages), (ho _ h.pages.lt).trans h.opages,
    fun i hi => (h.page i hi).step k1 ho (hne (by intro h; cases h) (by intro h; cases h)), ?_, h.model.step k1 ho (hne (by intro h; cases h) (by intro h; cases h)), ?_⟩, ?_, ho, rfl, fun _ _ => rfl, rfl, rfl⟩
  · refine Own.setCell ((hown.more fun g _ hg => ?_).ext) (p := ⟨P.sa, 19, none⟩) ?_ v'
    · rcases hg with hg | hg
      · exact Or.inl hg
      · exact Or.inr (by omega)
    · show ¬ extOwn w w' own .log P.sa = .log
      rw [ho _ hz, h.oserver]
      intro e; cases e
  · intro g hg
    rw [hsz] at hg
    exact extOwn_beyond h.beyond k0.size hg
  · exact k1.mono fun i _ e => by rcases e with e | e <;> rw [e] <;> intro h <;> cases h
end
end Go.Proofs.YtedkfehdfmimoaaGreat

namespace Go.Proofs.YtedkfehdfmimoaaGreat
open Go.RowKit

section
variable {w w' : World} {own own' : Nat → Slot} {P : Ptrs} {s : Srv}

theorem zipIdx_set_id (l : List Req) (i : Nat) (r r' : Req) (hi : l[i]? = some r) (hid : r'.id = r.id) (f : Nat → Nat) : ((l.set i r').zipIdx.map fun x => (x.1.id, f x.2)) = (l.zipIdx.map fun x => (x.1.id, f x.2)) := by
  apply List.ext_getElem?
  intro j
  simp only [List.getElem?_map, List.getElem?_zipIdx, List.getElem?_set]
  by_cases e : i = j
  · subst e
    by_cases h : i < l.length
    · simp [h] at hi ⊢
      subst hi
      simp [hid]
    · simp [h] at hi ⊢
  · simp [e]
theorem Rep.setReq (h : Rep w own P s) (i : Nat) (r r' : Req) (hi : s.reqs[i]? = some r) (hid : r'.id = r.id) (hp : r'.prompt = r.prompt) (ht : r'.tokens = r.tokens) (hh : r'.holds = r.holds) (j : Nat) (u : Value)
    (hc : (reqCells P i r).setIfInBounds j u = reqCells P i r') : Rep (w.setCell ⟨P.rb i, j, none⟩ u) own P { s with reqs := s.reqs.set i r' } := by
  obtain ⟨hil, hir⟩ := List.getElem?_eq_some_iff.1 hi
  have hq := h.req i hil
  rw [hir] at hq
  have kk : Keeps (· = P.rb i) w (w.setCell ⟨P.rb i, j, none⟩ u) := Keeps.setCell (p := ⟨P.rb i, j, none⟩) (Keeps.refl (· = P.rb i) w) (fun _ => rfl) u
  have ho : ∀ g, g < w.heap.size → own g = own g := fun _ _ => rfl
  have hn : ∀ {sl : Slot}, sl ≠ .req i → ∀ g, own g = sl → ¬ g = P.rb i := fun hsl g e e' => by subst e'; rw [hq.oreq] at e; exact hsl e.symm
  refine ⟨kk.blk h.server (hn (by intro h; cases h) _ h.oserver), h.oserver, ?_, h.omap, fun k hk => ?_, kk.blk h.pages (hn (by intro h; cases h) _ h.opages), h.opages,
    fun k hk => (h.page k hk).step kk ho (hn (by intro h; cases h)), h.log.step kk ho (hn (by intro h; cases h)), h.model.step kk ho (hn (by intro h; cases h)), fun g hg => h.beyond g (Nat.le_trans kk.size hg)⟩
  · show MapIs _ P.ma (((s.reqs.set i r').zipIdx).map fun x => (x.1.id, P.rb x.2))
    rw [zipIdx_set_id s.reqs i r r' hi hid P.rb]
    exact h.map.keep (kk.block _ h.map.lt (hn (by intro h; cases h) _ h.omap))
  · have hkl : k < s.reqs.length := by simpa using hk
    show ReqRep _ own P k (s.reqs.set i r')[k]
    by_cases e : k = i
    · subst e
      rw [List.getElem_set_self]
      refine ⟨by rw [← hc]; exact hq.blk.set_ j u, hq.oreq, ?_, ?_, ?_⟩
      · rw [hp]; exact hq.prompt.step kk ho (hn (by intro h; cases h))
      · rw [ht]; exact hq.tokens.step kk ho (hn (by intro h; cases h))
      · rw [hh]; exact hq.holds.step kk ho (hn (by intro h; cases h))
    · rw [List.getElem_set_ne (Ne.symm e)]
      exact (h.req k hkl).step kk ho fun g e' => by rcases e' with e' | e' | e' | e' <;> refine hn (fun h => ?_) g e' <;> cases h <;> exact e rfl
def setAt (f : Nat → Value) (i : Nat) (v : Value) (k : Nat) : Value := if k = i then v else f k
/-- append to a request's tokens, and the store of the new slice. -/
theorem Rep.newTokens (h : Rep w own P s) (i : Nat) (r : Req) (hi : s.reqs[i]? = some r) {v' : Value} {l' : List Int} {n' : Nat} (happ : Appended w w' (fun g => own g = .tokens i) 3 1 (P.vtok i) v' n' (ints l')) (hn : n' = l'.length) (m : Nat) :
    Rep (w'.setCell ⟨P.rb i, 5, none⟩ v') (extOwn w w' own (.tokens i)) { P with vtok := setAt P.vtok i v' } { s with reqs := s.reqs.set i { r with tokens := l' } } ∧
      Step w own P (w'.setCell ⟨P.rb i, 5, none⟩ v') (extOwn w w' own (.tokens i)) { P with vtok := setAt P.vtok i v' } m := by
  subst hn
  obtain ⟨hil, hir⟩ := List.getElem?_eq_some_iff.1 hi
  have hq := h.req i hil
  rw [hir] at hq
  obtain ⟨hown, hgr, -⟩ := happ
  have hz := hq.blk.lt
  have k0 : Keeps (fun g => own g = .tokens i) w w' := (Keeps.refl _ w).grown hgr fun g hg hlt => hq.tokens.2 g hg
  have k1 : Keeps (fun g => own g = .tokens i ∨ own g = .req i) w (w'.setCell ⟨P.rb i, 5, none⟩ v') := Keeps.setCell (S := fun g => own g = .tokens i ∨ own g = .req i) (k0.mono fun i _ e => Or.inl e) (p := ⟨P.rb i, 5, none⟩) (fun _ => Or.inr hq.oreq) v'
  have ho : ∀ g, g < w.heap.size → extOwn w w' own (.tokens i) g = own g := fun g hg => extOwn_old hg
  have hne : ∀ {sl : Slot}, sl ≠ .tokens i → sl ≠ .req i → ∀ g, own g = sl → ¬ (own g = .tokens i ∨ own g = .req i) := fun h1 h2 g e e' => e'.elim (fun x => h1 (e.symm.trans x)) (fun x => h2 (e.symm.trans x))
  have hb1 := (k0.blk hq.blk (by rw [hq.oreq]; intro e; cases e)).set_ 5 v'
  have hsz : (w'.setCell ⟨P.rb i, 5, none⟩ v').heap.size = w'.heap.size := by simp
  refine ⟨⟨k1.blk h.server (hne (by intro h; cases h) (by intro h; cases h) _ h.oserver), (ho _ h.server.lt).trans h.oserver, ?_, (ho _ h.map.lt).trans h.omap, fun k hk => ?_,
    k1.blk h.pages (hne (by intro h; cases h) (by intro h; cases h) _ h.opages), (ho _ h.pages.lt).trans h.opages,
    fun k hk => (h.page k hk).step k1 ho (hne (by intro h; cases h) (by intro h; cases h)), h.log.step k1 ho (hne (by intro h; cases h) (by intro h; cases h)), h.model.step k1 ho (hne (by intro h; cases h) (by intro h; cases h)), ?_⟩, ?_, ho, rfl, fun _ _ => rfl, rfl, rfl⟩
  · show MapIs _ P.ma (((s.reqs.set i { r with tokens := l' }).zipIdx).map fun x => (x.1.id, P.rb x.2))
    rw [zipIdx_set_id s.reqs i r { r with tokens := l' } hi rfl P.rb]
    exact h.map.keep (k1.block _ h.map.lt (hne (by intro h; cases h) (by intro h; cases h) _ h.omap))
  · have hkl : k < s.reqs.length := by simpa using hk
    show ReqRep _ _ _ k (s.reqs.set i { r with tokens := l' })[k]
    by_cases e : k = i
    · subst e
      rw [List.getElem_set_self]
      refine ⟨by simpa [reqCells, setAt] using hb1, (ho _ hz).trans hq.oreq, hq.prompt.step k1 ho (hne (by intro h; cases h) (by intro h; cases h)), ?_, hq.holds.step k1 ho (hne (by intro h; cases h) (by intro h; cases h))⟩
      show Own _ _ _ _ (setAt P.vtok k v' k) l'.length (ints l')
      rw [show setAt P.vtok k v' k = v' from if_pos rfl]
      refine Own.setCell ((hown.more fun g _ hg => ?_).ext) (p := ⟨P.rb k, 5, none⟩) ?_ v'
      · rcases hg with hg | hg
        · exact Or.inl hg
        · exact Or.inr (by omega)
      · show ¬ extOwn w w' own (.tokens k) (P.rb k) = .tokens k
        rw [ho _ hz, hq.oreq]
        intro e; cases e
    · rw [List.getElem_set_ne (Ne.symm e)]
      refine ((h.req k hkl).step k1 ho fun g e' => ?_).move rfl (if_neg e) rfl rfl
      rcases e' with e' | e' | e' | e' <;> refine hne (fun h => ?_) (fun h => ?_) g e' <;> cases h <;> exact e rfl
  · intro g hg
    rw [hsz] at hg
    exact extOwn_beyond h.beyond k0.size hg
  · exact k1.mono fun i _ e => by rcases e with e | e <;> rw [e] <;> intro h <;> cases h
/-- append to a request's holds, and the store of the new slice. -/
theorem Rep.newHolds (h : Rep w own P s) (i : Nat) (r : Req) (hi : s.reqs[i]? = some r) {v' : Value} {l' : List Int} {n' : Nat} (happ : Appended w w' (fun g => own g = .holds i) 3 1 (P.vhold i) v' n' (ints l')) (hn : n' = l'.length) (m : Nat) :
    Rep (w'.setCell ⟨P.rb i, 7, none⟩ v') (extOwn w w' own (.holds i)) { P with vhold := setAt P.vhold i v' } { s with reqs := s.reqs.set i { r with holds := l' } } ∧
      Step w own P (w'.setCell ⟨P.rb i, 7, none⟩ v') (extOwn w w' own (.holds i)) { P with vhold := setAt P.vhold i v' } m := by
  subst hn
  obtain ⟨hil, hir⟩ := List.getElem?_eq_some_iff.1 hi
  have hq := h.req i hil
  rw [hir] at hq
  obtain ⟨hown, hgr, -⟩ := happ
  have hz := hq.blk.lt
  have k0 : Keeps (fun g => own g = .holds i) w w' := (Keeps.refl _ w).grown hgr fun g hg hlt => hq.holds.2 g hg
  have k1 : Keeps (fun g => own g = .holds i ∨ own g = .req i) w (w'.setCell ⟨P.rb i, 7, none⟩ v') := Keeps.setCell (S := fun g => own g = .holds i ∨ own g = .req i) (k0.mono fun i _ e => Or.inl e) (p := ⟨P.rb i, 7, none⟩) (fun _ => Or.inr hq.oreq) v'
  have ho : ∀ g, g < w.heap.size → extOwn w w' own (.holds i) g = own g := fun g hg => extOwn_old hg
  have hne : ∀ {sl : Slot}, sl ≠ .holds i → sl ≠ .req i → ∀ g, own g = sl → ¬ (own g = .holds i ∨ own g = .req i) := fun h1 h2 g e e' => e'.elim (fun x => h1 (e.symm.trans x)) (fun x => h2 (e.symm.trans x))
  have hb1 := (k0.blk hq.blk (by rw [hq.oreq]; intro e; cases e)).set_ 7 v'
  have hsz : (w'.setCell ⟨P.rb i, 7, none⟩ v').heap.size = w'.heap.size := by simp
  refine ⟨⟨k1.blk h.server (hne (by intro h; cases h) (by intro h; cases h) _ h.oserver), (ho _ h.server.lt).trans h.oserver, ?_, (ho _ h.map.lt).trans h.omap, fun k hk => ?_,
    k1.blk h.pages (hne (by intro h; cases h) (by intro h; cases h) _ h.opages), (ho _ h.pages.lt).trans h.opages,
    fun k hk => (h.page k hk).step k1 ho (hne (by intro h; cases h) (by intro h; cases h)), h.log.step k1 ho (hne (by intro h; cases h) (by intro h; cases h)), h.model.step k1 ho (hne (by intro h; cases h) (by intro h; cases h)), ?_⟩, ?_, ho, rfl, fun _ _ => rfl, rfl, rfl⟩
  · show MapIs _ P.ma (((s.reqs.set i { r with holds := l' }).zipIdx).map fun x => (x.1.id, P.rb x.2))
    rw [zipIdx_set_id s.reqs i r { r with holds := l' } hi rfl P.rb]
    exact h.map.keep (k1.block _ h.map.lt (hne (by intro h; cases h) (by intro h; cases h) _ h.omap))
  · have hkl : k < s.reqs.length := by simpa using hk
    show ReqRep _ _ _ k (s.reqs.set i { r with holds := l' })[k]
    by_cases e : k = i
    · subst e
      rw [List.getElem_set_self]
      refine ⟨by simpa [reqCells, setAt] using hb1, (ho _ hz).trans hq.oreq, hq.prompt.step k1 ho (hne (by intro h; cases h) (by intro h; cases h)), hq.tokens.step k1 ho (hne (by intro h; cases h) (by intro h; cases h)), ?_⟩
      show Own _ _ _ _ (setAt P.vhold k v' k) l'.length (ints l')
      rw [show setAt P.vhold k v' k = v' from if_pos rfl]
      refine Own.setCell ((hown.more fun g _ hg => ?_).ext) (p := ⟨P.rb k, 7, none⟩) ?_ v'
      · rcases hg with hg | hg
        · exact Or.inl hg
        · exact Or.inr (by omega)
      · show ¬ extOwn w w' own (.holds k) (P.rb k) = .holds k
        rw [ho _ hz, hq.oreq]
        intro e; cases e
    · rw [List.getElem_set_ne (Ne.symm e)]
      refine ((h.req k hkl).step k1 ho fun g e' => ?_).move rfl rfl (if_neg e) rfl
      rcases e' with e' | e' | e' | e' <;> refine hne (fun h => ?_) (fun h => ?_) g e' <;> cases h <;> exact e rfl
  · intro g hg
    rw [hsz] at hg
    exact extOwn_beyond h.beyond k0.size hg
  · exact k1.mono fun i _ e => by rcases e with e | e <;> rw [e] <;> intro h <;> cases h
end
end Go.Proofs.YtedkfehdfmimoaaGreat

namespace Go.Proofs.YtedkfehdfmimoaaGreat
open Go.RowKit

set_option maxRecDepth 100000 in
set_option maxHeartbeats 1000000 in
theorem entry_any (w : World) (T : Nat → Prop) (M : Model) (v4 v5 v6 v7 v8 v9 v10 : Value) (h : MSl w T M v4 v5 v6 v7 v8 v9 v10) (hM : M.Ok) (t i : Nat) (ht : t < M.vocab) (hi : i < 64) :
    Calls Tryz.prog 44 #[.agg #[.int .i64 M.kind, .int .i64 M.vocab, .int .i64 M.width, .int .i64 M.top, v4, v5, v6, v7, v8, v9, v10], .int .i64 t, .int .i64 i] w (RetFresh w 3 1 (M.entry t i).length (ints (M.entry t i))) := by
  replace h := h.old
  clear T
  generalize hT : (fun b : Nat => b < w.heap.size) = T at h
  have hTlt : ∀ b, T b → b < w.heap.size := fun b hb => by rw [← hT] at hb; exact hb
  clear hT
  obtain ⟨hv1, hv2⟩ := hM.vocab
  obtain ⟨hw1, hw2⟩ := hM.width
  obtain ⟨tp, hp1, hp2, hp3⟩ := hM.lplace
  have hl5 := hM.lembed
  have hrow5 : (t + 1) * M.width ≤ M.embed.length := by rw [hl5]; exact Nat.mul_le_mul_right _ ht
  have hb5 := mul_bounds _ _ _ _ hv2 hw2
  have hb6 := mul_bounds _ _ _ _ hp2 hw2
  have hl6 : M.place.length ≤ 80 := by omega
  have hl5n : M.embed.length ≤ 80 := by omega
  have HP3 := Lib.hid hp3
  clear hp3 hl5
  go_enter Tryz.func44, Tryz.ntmps44
  go_wp2_with fail
  refine (row_any _ T v5 M.embed t M.width (h.embed.alloc _) hrow5 (by omega) (by omega) (by omega)).mono ?_
  rintro e w' ⟨rfl, rfl⟩
  go_wp2_with fail
  have hl5' := rowF_length _ _ _ hrow5
  refine (clone_slc _ _ _ _ ((h.embed.alloc _).row t M.width hrow5) (by omega)).mono ?_
  rintro e w1 ⟨v, rfl, hown, hb1⟩
  rw [hl5'] at hown
  obtain ⟨g, cap, rfl, hcap1, hcap2, hg1, hg2⟩ := hown.form (by omega)
  have h1 := (h.alloc _).fresh hb1
  have k1 := (Blk.new w 27 _).below hb1 (by simp)
  have b1 : Below w.heap.size w w1 := ((Below.refl _ _).alloc (Nat.le_refl _) _).trans (hb1.mono (by simp))
  clear hb1
  have z1 := k1.lt
  have q1 := k1.cell
  obtain ⟨A6, c6, rfl⟩ := h1.place.len
  have e0 : (0 : Int) ≤ i % tp := Int.emod_nonneg _ (by omega)
  have hrow6 : (i % tp + 1) * M.width ≤ M.place.length := by rw [HP3.out]; exact Nat.mul_le_mul_right _ (Nat.mod_lt _ hp1)
  have hmod : i % tp ≤ 65536 := by have := Nat.mod_lt i (show tp > 0 by omega); omega
  have hp0 : ¬ tp = 0 := by omega
  have HC : RowKit.Hid ((i : Int).tmod tp = ((i % tp : Nat) : Int)) := by show _ = _; rw [Int.tmod_eq_emod_of_nonneg (by omega)]; simp
  have hl6' := rowF_length _ _ _ hrow6
  have hy := h1.place.row (i % tp) M.width hrow6
  obtain ⟨B, b, HB⟩ := hy.len
  rw [hl6'] at HB
  have HR : RowKit.Hid (∀ (n : Nat) (x : Int), x = ((i % tp : Nat) : Int) → Calls Tryz.prog 76 #[.slice A6 M.place.length c6, .int .i64 x, .int .i64 M.width] (w1.drewN n) fun e w' => e = .returned (.slice B M.width b) ∧ w1.drewN n = w') := by
    intro n x hx
    rw [hx, ← HB]
    exact row_any _ T _ M.place (i % tp) M.width (h1.place.drewN _) hrow6 (by omega) hmod (by omega)
  rw [HB] at hy
  clear HB
  go_wp2_with fail
  go_quiet ((first
    | (go_at_call 77; exact quiet_left (rows_ok _ _ _ _ tp _ (by omega) (by omega) HP3.out (by omega)))
    | (go_at_call 76; exact quiet_left (HR.out _ _ (by first | exact HC.out | simp)))))
  go_wp2_with fail
  have hx := rowF_length _ _ _ hrow5
  have k1' := k1.drewN nq
  have hbo := hown.drewN nq
  have hyd := hy.drewN nq
  have bd : Below w.heap.size w (w1.drewN nq) := b1.trans ⟨rfl, rfl, rfl, Nat.le_refl _, fun _ _ => rfl⟩
  generalize w1.drewN nq = w2 at *
  have hown2 : Own w2 (fun g => w.heap.size < g) 3 1 (.slice (some ⟨g, 0, none⟩) M.width cap) M.width (ints (rowF M.embed t M.width)) := hbo.more fun g _ hg => by simp at hg; omega
  have hly : (rowF M.place (i % tp) M.width).length = M.width := hl6'
  clear hown hbo k1 q1 b1 h1 hy hl5' hl6' HR
  obtain ⟨X, hX⟩ : ∃ X, X = rowF M.embed t M.width := ⟨_, rfl⟩
  obtain ⟨Y, hY⟩ : ∃ Y, Y = rowF M.place (i % tp) M.width := ⟨_, rfl⟩
  rw [← hX] at hown2 hx
  rw [← hY] at hyd hly
  have HX := Lib.hid hX
  have HY := Lib.hid hY
  clear hX hY
  have HXL := Lib.hid hx
  have HYL := Lib.hid hly
  clear hx hly
  go_loopw [33] (fun i wr => ∃ k : Nat, k ≤ M.width ∧ i = .int .i64 k ∧ Own wr (fun g => w.heap.size < g) 3 1 (.slice (some ⟨g, 0, none⟩) M.width cap) M.width (ints (addRow (X.take k) (Y.take k) ++ X.drop k)) ∧ Below w.heap.size w2 wr ∧ Blk wr w.heap.size 27 #[.int .i64 M.kind, .int .i64 M.vocab, .int .i64 M.width, .int .i64 M.top, v4, v5, .slice A6 M.place.length c6, v7, v8, v9, v10]) (fun i _ => M.width - (intOf i).toNat)
  case atStart => exact ⟨0, Nat.zero_le _, rfl, by simpa [addRow] using hown2, Below.refl _ _, k1'⟩
  obtain ⟨k, hk, rfl, ho, hb, hbx⟩ := hrel
  by_cases hlt : k < M.width
  · have hyr := hyd.below hb hTlt
    obtain ⟨hnn, ad, rfl, hcy⟩ := hyr.at_ k (by rw [HYL.out]; exact hlt)
    have hcx := ho.get k hlt
    have hfx := ho.unfrozen k
    rw [addRow_get X Y k (by rw [HXL.out]; exact hlt) (by rw [HYL.out]; exact hlt)] at hcx
    obtain ⟨x', hx'⟩ : ∃ x', x' = X[k]'(by rw [HXL.out]; exact hlt) := ⟨_, rfl⟩
    obtain ⟨y', hy'⟩ : ∃ y', y' = Y[k]'(by rw [HYL.out]; exact hlt) := ⟨_, rfl⟩
    rw [← hx'] at hcx
    rw [← hy'] at hcy
    have HS := Lib.hid (addRow_step X Y k (by rw [HXL.out]; exact hlt) (by rw [HYL.out]; exact hlt))
    have HX' := Lib.hid hx'
    have HY' := Lib.hid hy'
    clear hx' hy' hnn
    go_wp2_with (go_at_call 78; refine (wrap_any _ _).mono ?_; rintro e w' ⟨rfl, rfl⟩)
    go_roundw
    case rel =>
      refine ⟨k + 1, by omega, by go_num, ?_, hb.setCell (by have := hown2.2 g rfl; simp; omega) _, hbx.far (by have := hown2.2 g rfl; simp at this ⊢; omega) _⟩
      rw [← HS.out, ← HX'.out, ← HY'.out, wr_wrap64]
      have := ho.set k hlt (.int .i64 (Go.Proofs.YtedkfehdfmimoaaGreat.wr (x' + y')))
      simpa [ints, List.map_set] using this
    case measure => simp [intOf]; omega
  · obtain rfl : k = M.width := by omega
    have hxx : addRow (X.take M.width) (Y.take M.width) ++ X.drop M.width = M.x t i := by
      rw [List.take_of_length_le (by rw [HXL.out]; exact Nat.le_refl _), List.take_of_length_le (by rw [HYL.out]; exact Nat.le_refl _), List.drop_of_length_le (by rw [HXL.out]; exact Nat.le_refl _), List.append_nil, HX.out, HY.out]
      unfold Model.x Model.rows
      rw [HP3.out, Nat.mul_div_cancel _ (by omega)]
    rw [hxx] at ho
    have b3 : Below w.heap.size w wr := bd.trans hb
    clear hxx hb bd k1' hown2 HX HY HXL HYL hyd hrow5 hrow6 HC
    have q3 := hbx.cell
    by_cases hkind : M.kind = 1
    · have hlx : (M.x t i).length = M.width := by have := ho.length; rw [ints_length] at this; omega
      have hxw : inRange (-2147483648) 2147483647 (M.x t i) := by
        intro z hz
        unfold Model.x addRow at hz
        obtain ⟨n, hn, rfl⟩ := List.getElem_of_mem hz
        rw [List.getElem_zipWith]
        exact wr_range _
      have hmix := hM.attend hkind
      rw [Nat.mul_assoc] at hmix
      have hb7 := mul_bounds _ _ _ _ hw2 hw2
      have hm3 := (h.below b3 hTlt).old
      have hx3 := ho.slc.old
      have hcut : 0 < M.cuts.length := by have := hM.lcuts; omega
      obtain ⟨A4, c4, rfl⟩ := h.cuts.len
      obtain ⟨-, ad4, rfl, hc4⟩ := hm3.cuts.at_ 0 hcut
      obtain ⟨cu1, cu2⟩ := hM.cuts _ (List.getElem_mem hcut)
      have hcutE : M.cuts[0] = M.cut 0 := by simp [Model.cut, List.getD, hcut]
      rw [hcutE] at hc4 cu1 cu2
      rw [show ad4.add 0 = ad4 from by simp [Addr.add]] at hc4
      have hcl := hM.lcuts
      have HE : RowKit.Hid (M.entry t i = (List.range 3).flatMap (M.ent t i)) := by show _ = _; unfold Model.entry; rw [if_pos hkind]; rfl
      have HK := Lib.hid hkind
      have HML := Lib.hid hmix
      have HLX := Lib.hid hlx
      have hz3 := b3.size
      have hg3 : g < wr.heap.size := ho.lt rfl
      have hbx3 := hbx.lt
      have hk' : (M.kind != 1) = false := by simpa using hkind
      clear hkind hmix hlx hcutE h e0 hmod hp0
      obtain ⟨w3, rfl⟩ : ∃ w3 : World, w3 = wr := ⟨_, rfl⟩
      go_wp2_with fail
      go_loopw [11, 53] (fun v i' wr => ∃ k : Nat, k ≤ 3 ∧ i' = .int .i64 k ∧ Own wr (fun g => w3.heap.size ≤ g) 3 1 v (k * M.width) (ints ((List.range k).flatMap (M.ent t i))) ∧ Below w3.heap.size w3 wr) (fun _ i' _ => 3 - (intOf i').toNat)
      case atStart => exact ⟨0, by omega, rfl, by simpa [ints] using Own.nil_ w3 (fun g => w3.heap.size ≤ g) 3 1, Below.refl _ _⟩
      obtain ⟨k, hk, rfl, ho1, hb1⟩ := hrel
      by_cases hlt1 : k < 3
      · obtain ⟨wo, rfl⟩ : ∃ wo : World, wo = wr := ⟨_, rfl⟩
        go_wp2_with fail
        go_loopw [11, 57] (fun v o' wr => ∃ o : Nat, o ≤ M.width ∧ o' = .int .i64 o ∧ Own wr (fun g => w3.heap.size ≤ g) 3 1 v (k * M.width + o) (ints ((List.range k).flatMap (M.ent t i) ++ (List.range o).map fun o => shiftF (dotF (rowF (M.matrix k) o M.width) (M.x t i)) (M.cut 0))) ∧ Below w3.heap.size w3 wr) (fun _ o' _ => M.width - (intOf o').toNat)
        case atStart => exact ⟨0, by omega, rfl, by simpa using ho1, hb1⟩
        obtain ⟨o, ho', rfl, ho2, hb2⟩ := hrel
        by_cases hlt2 : o < M.width
        · have hmr := hm3.below hb2 (fun _ h => h)
          have hxr := hx3.below hb2 (fun _ h => h)
          have hbr := hbx.below hb2 hbx3
          have hlt4 : ad4.block < w3.heap.size := by
            rcases Nat.lt_or_ge ad4.block w3.heap.size with h | h
            · exact h
            · simp [World.cell?, Array.getElem?_eq_none h] at hc4
          have hkw : k * M.width + o ≤ 1000 := by
            have := mul_bounds _ _ _ _ (show k ≤ 2 by omega) hw2
            omega
          have hne4 : u11.ownBlock ≠ some ad4.block := fun e => by have := ho2.2 _ e; simp at this; omega
          go_wp2_with fail
          refine entry_r17 wr _ M ad4 c4 v5 _ v7 v8 v9 v10 hmr hM HK.out t i k o w.heap.size hlt1 hlt2 _ hxr HLX.out hxw _ _ _ _ ho2 hkw hne4 hbr _ _ _ _ _ _ _ _ _ _ _ _ _ _ _ _ _ _ _ _ _ _ _ _ _ _ _ _ _ _ _ _ _ _ _ _ _ _ _ _ _ _ _ _ _ _ _ _ _ _ _ _ _ _ _ _ _ _ _ _ _ _ _ _ _ _ _ _ _ _ _ _ _  _ ?_
          intro v' w' y60 y61 y62 y63 y64 y65 y66 y67 y68 y69 y70 y71 y72 y73 y74 y75 hov hgv
          go_wp2_with fail
          go_roundw
          case rel =>
            refine ⟨o + 1, by omega, by go_num, ?_, ⟨hgv.os.trans hb2.os, hgv.tape.trans hb2.tape, hgv.output.trans hb2.output, Nat.le_trans hb2.size hgv.size, fun q hq => (hgv.block q (Nat.lt_of_lt_of_le hq hb2.size) (fun e => by have := ho2.2 _ e.symm; simp at this; omega)).trans (hb2.block q hq)⟩⟩
            have hz := hb2.size
            have hov' := hov.more (T' := fun g => w3.heap.size ≤ g) fun g _ hg => by rcases hg with hg | hg <;> omega
            rw [range_map_succ, ← List.append_assoc]
            simpa [ints, Nat.add_assoc] using hov'
          case measure => simp [intOf]; omega
        · obtain rfl : o = M.width := by omega
          go_wp2_with fail
          go_roundw
          case rel =>
            refine ⟨k + 1, by omega, by go_num, ?_, hb2⟩
            rw [range_flat_succ, Nat.add_mul, Nat.one_mul]
            exact ho2
          case measure => simp [intOf]; omega
      · obtain rfl : k = 3 := by omega
        go_wp2_with fail
        go_ret
        refine ⟨_, rfl, ?_, b3.trans (hb1.mono hz3)⟩
        rw [HE.out, ent_flat_length]
        exact ho1.more fun g _ hg => by omega
    · have hk' : (M.kind != 1) = true := by simpa using hkind
      have HE : RowKit.Hid (M.entry t i = M.x t i) := by show _ = _; unfold Model.entry; rw [if_neg hkind]
      have hlen := ho.length
      rw [ints_length, Nat.mul_one] at hlen
      have HL := Lib.hid hlen
      clear hkind hlen
      go_wp2_with fail
      go_ret
      refine ⟨_, rfl, ?_, b3⟩
      rw [HE.out, HL.out]
      exact ho.more fun g _ hg => by omega
end Go.Proofs.YtedkfehdfmimoaaGreat

namespace Go.Proofs.YtedkfehdfmimoaaGreat
section
variable {α : Type}

/-- the element at j moves down while it is less than the one before it -/
def insDown (lt : α → α → Bool) : Nat → List α → List α
  | 0, xs => xs
  | j + 1, xs => match xs[j + 1]?, xs[j]? with
    | some a, some b => if lt a b then insDown lt j ((xs.set (j + 1) b).set j a) else xs
    | _, _ => xs
/-- the first k elements sorted -/
def isortTo (lt : α → α → Bool) (xs : List α) : Nat → List α
  | 0 => xs
  | k + 1 => insDown lt k (isortTo lt xs k)
def isort (lt : α → α → Bool) (xs : List α) : List α := isortTo lt xs xs.length

theorem insDown_length (lt : α → α → Bool) (j : Nat) : ∀ xs : List α, (insDown lt j xs).length = xs.length := by
  induction j with
  | zero => exact fun _ => rfl
  | succ j ih =>
    intro xs
    unfold insDown
    split
    · split
      · rw [ih]; simp
      · rfl
    · rfl
theorem isortTo_length (lt : α → α → Bool) (xs : List α) (k : Nat) : (isortTo lt xs k).length = xs.length := by
  induction k with
  | zero => rfl
  | succ k ih => rw [isortTo, insDown_length, ih]
theorem insDown_stop (lt : α → α → Bool) (j : Nat) (xs : List α) (a b : α) (ha : xs[j + 1]? = some a) (hb : xs[j]? = some b) (h : lt a b = false) : insDown lt (j + 1) xs = xs := by
  simp [insDown, ha, hb, h]
theorem insDown_go (lt : α → α → Bool) (j : Nat) (xs : List α) (a b : α) (ha : xs[j + 1]? = some a) (hb : xs[j]? = some b) (h : lt a b = true) : insDown lt (j + 1) xs = insDown lt j ((xs.set (j + 1) b).set j a) := by
  simp [insDown, ha, hb, h]
theorem mem_swap {xs : List α} {j : Nat} {a b : α} (ha : xs[j + 1]? = some a) (hb : xs[j]? = some b) : ∀ x ∈ (xs.set (j + 1) b).set j a, x ∈ xs := by
  intro x hx
  rcases List.mem_or_eq_of_mem_set hx with hx | rfl
  · rcases List.mem_or_eq_of_mem_set hx with hx | rfl
    · exact hx
    · exact List.mem_of_getElem? hb
  · exact List.mem_of_getElem? ha
theorem insDown_mem (lt : α → α → Bool) (j : Nat) : ∀ xs : List α, ∀ x ∈ insDown lt j xs, x ∈ xs := by
  induction j with
  | zero => exact fun _ _ h => h
  | succ j ih =>
    intro xs x hx
    unfold insDown at hx
    split at hx
    · rename_i a b ha hb
      split at hx
      · exact mem_swap ha hb x (ih _ _ hx)
      · exact hx
    · exact hx
theorem isortTo_mem (lt : α → α → Bool) (xs : List α) (k : Nat) : ∀ x ∈ isortTo lt xs k, x ∈ xs := by
  induction k with
  | zero => exact fun _ h => h
  | succ k ih => exact fun x hx => ih x (insDown_mem lt k _ x hx)

theorem split_two {xs : List α} {j : Nat} {a b : α} (ha : xs[j + 1]? = some a) (hb : xs[j]? = some b) : xs = xs.take j ++ b :: a :: xs.drop (j + 2) := by
  obtain ⟨h1, e1⟩ := List.getElem?_eq_some_iff.1 ha
  obtain ⟨h0, e0⟩ := List.getElem?_eq_some_iff.1 hb
  have d1 : xs.drop (j + 1) = a :: xs.drop (j + 2) := by rw [List.drop_eq_getElem_cons h1, e1]
  have d0 : xs.drop j = b :: xs.drop (j + 1) := by rw [List.drop_eq_getElem_cons h0, e0]
  rw [← d1, ← d0, List.take_append_drop]
theorem swap_two {xs : List α} {j : Nat} {a b : α} (ha : xs[j + 1]? = some a) (hb : xs[j]? = some b) : (xs.set (j + 1) b).set j a = xs.take j ++ a :: b :: xs.drop (j + 2) := by
  obtain ⟨h1, e1⟩ := List.getElem?_eq_some_iff.1 ha
  apply List.ext_getElem?
  intro i
  have hl : (xs.take j).length = j := by simp; omega
  rcases Nat.lt_or_ge i j with h | h
  · rw [List.getElem?_set_ne (by omega), List.getElem?_set_ne (by omega), List.getElem?_append_left (by omega), List.getElem?_take_of_lt h]
  · rw [List.getElem?_append_right (by omega), hl]
    obtain ⟨k, rfl⟩ := Nat.exists_eq_add_of_le h
    rw [show j + k - j = k from by omega]
    match k with
    | 0 => simp [show j < xs.length by omega]
    | 1 => simp [h1]
    | k + 2 => simp only [List.getElem?_cons_succ, List.getElem?_drop]; rw [List.getElem?_set_ne (by omega), List.getElem?_set_ne (by omega)]; congr 1; omega
theorem swap_perm {xs : List α} {j : Nat} {a b : α} (ha : xs[j + 1]? = some a) (hb : xs[j]? = some b) : ((xs.set (j + 1) b).set j a).Perm xs := by
  rw [swap_two ha hb]
  conv => rhs; rw [split_two ha hb]
  exact List.Perm.append_left _ (List.Perm.swap _ _ _)
theorem insDown_perm (lt : α → α → Bool) (j : Nat) : ∀ xs : List α, (insDown lt j xs).Perm xs := by
  induction j with
  | zero => exact fun _ => List.Perm.refl _
  | succ j ih =>
    intro xs
    unfold insDown
    split
    · rename_i a b ha hb
      split
      · exact (ih _).trans (swap_perm ha hb)
      · exact List.Perm.refl _
    · exact List.Perm.refl _
theorem isortTo_perm (lt : α → α → Bool) (xs : List α) (k : Nat) : (isortTo lt xs k).Perm xs := by
  induction k with
  | zero => exact List.Perm.refl _
  | succ k ih => exact (insDown_perm lt k _).trans ih
theorem isort_perm (lt : α → α → Bool) (xs : List α) : (isort lt xs).Perm xs := isortTo_perm lt xs _

/-- all pairs below K are in order, but those whose second is at m -/
def Almost (lt : α → α → Bool) (m K : Nat) (D : List α) : Prop := ∀ i j, i < j → j < K → j ≠ m → ∀ a b, D[i]? = some a → D[j]? = some b → lt b a = false
def SortedTo (lt : α → α → Bool) (K : Nat) (D : List α) : Prop := ∀ i j, i < j → j < K → ∀ a b, D[i]? = some a → D[j]? = some b → lt b a = false
theorem insDown_sorted (lt : α → α → Bool) (asym : ∀ a b, lt a b = true → lt b a = false) (ntr : ∀ a b c, lt b a = false → lt c b = false → lt c a = false) (K : Nat) (m : Nat) :
    ∀ D : List α, Almost lt m K D → m < D.length → SortedTo lt K (insDown lt m D) := by
  induction m with
  | zero => exact fun D h _ i j hij hj a b ha hb => h i j hij hj (by omega) a b ha hb
  | succ m ih =>
    intro D h hm
    have h1 : D[m + 1]? = some D[m + 1] := List.getElem?_eq_getElem hm
    have h0 : D[m]? = some (D[m]'(by omega)) := List.getElem?_eq_getElem (by omega)
    generalize D[m + 1] = x at h1
    generalize D[m]'(by omega) = y at h0
    by_cases hl : lt x y = true
    · rw [insDown_go lt m D x y h1 h0 hl]
      refine ih _ ?_ (by simp; omega)
      intro i j hij hj hjm a b ha hb
      have gj : ∀ t, t ≠ m → t ≠ m + 1 → ((D.set (m + 1) y).set m x)[t]? = D[t]? := fun t h1 h2 => by rw [List.getElem?_set_ne (by omega), List.getElem?_set_ne (by omega)]
      have g1 : ((D.set (m + 1) y).set m x)[m + 1]? = some y := by rw [List.getElem?_set_ne (by omega), List.getElem?_set_self (by omega)]
      have g0 : ((D.set (m + 1) y).set m x)[m]? = some x := by rw [List.getElem?_set_self (by simp; omega)]
      by_cases j1 : j = m + 1
      · subst j1
        rw [g1] at hb
        injection hb with hb
        subst hb
        by_cases i0 : i = m
        · subst i0
          rw [g0] at ha
          injection ha with ha
          subst ha
          exact asym _ _ hl
        · rw [gj i i0 (by omega)] at ha
          exact h i m (by omega) (by omega) (by omega) a y ha h0
      · rw [gj j hjm j1] at hb
        by_cases i0 : i = m
        · subst i0
          rw [g0] at ha
          injection ha with ha
          subst ha
          exact h (i + 1) j (by omega) hj j1 _ b h1 hb
        · by_cases i1 : i = m + 1
          · subst i1
            rw [g1] at ha
            injection ha with ha
            subst ha
            exact h m j (by omega) hj j1 _ b h0 hb
          · rw [gj i i0 i1] at ha
            exact h i j hij hj j1 a b ha hb
    · rw [insDown_stop lt m D x y h1 h0 (by simpa using hl)]
      intro i j hij hj a b ha hb
      by_cases j1 : j = m + 1
      · subst j1
        rw [h1] at hb
        injection hb with hb
        subst hb
        by_cases i0 : i = m
        · subst i0
          rw [h0] at ha
          injection ha with ha
          subst ha
          simpa using hl
        · exact ntr a y x (h i m (by omega) (by omega) (by omega) a y ha h0) (by simpa using hl)
      · exact h i j hij hj j1 a b ha hb
theorem isortTo_sorted (lt : α → α → Bool) (asym : ∀ a b, lt a b = true → lt b a = false) (ntr : ∀ a b c, lt b a = false → lt c b = false → lt c a = false) (xs : List α) (k : Nat) (hk : k ≤ xs.length) :
    SortedTo lt k (isortTo lt xs k) := by
  induction k with
  | zero => exact fun i j _ hj => by omega
  | succ k ih =>
    rw [isortTo]
    refine insDown_sorted lt asym ntr (k + 1) k _ ?_ (by rw [isortTo_length]; omega)
    intro i j hij hj hjk a b ha hb
    exact ih (by omega) i j hij (by omega) a b ha hb
theorem isort_sorted (lt : α → α → Bool) (asym : ∀ a b, lt a b = true → lt b a = false) (ntr : ∀ a b c, lt b a = false → lt c b = false → lt c a = false) (xs : List α) : SortedTo lt xs.length (isort lt xs) :=
  isortTo_sorted lt asym ntr xs _ (Nat.le_refl _)
end
end Go.Proofs.YtedkfehdfmimoaaGreat

namespace Go.Proofs.YtedkfehdfmimoaaGreat
open Go.RowKit

section
set_option maxRecDepth 100000 in
set_option maxHeartbeats 1000000 in
/-- insertionSortCmpFunc over a row of the caller's own. -/
theorem ins_ints (w : World) (T : Nat → Prop) (g cap n : Nat) (xs : List Int) (h : Own w T 3 1 (.slice (some ⟨g, 0, none⟩) n cap) n (xs.map fun z => .int .i64 z)) (hn : n ≤ 1000000) (cs : Array Value)
    (cf : Int → Int → Int) (Inv : World → Prop) (h0 : Inv w)
    (hI1 : ∀ W W', Inv W → Below W.heap.size W W' → Inv W') (hI2 : ∀ W j u, Inv W → Inv (W.setCell ⟨g, j, none⟩ u))
    (hcmp : ∀ W x y, Inv W → x ∈ xs → y ∈ xs → Calls Tryz.prog 119 (#[.int .i64 x, .int .i64 y] ++ cs) W fun e W' => e = .returned (.int .i64 (cf x y)) ∧ Below W.heap.size W W') :
    Calls Tryz.prog 130 #[.slice (some ⟨g, 0, none⟩) n cap, .int .i64 0, .int .i64 n, .func (.func 119) #[] cs] w fun e w' => e = .returned (.tuple #[]) ∧
      Own w' T 3 1 (.slice (some ⟨g, 0, none⟩) n cap) n ((isort (fun a b => decide (cf a b < 0)) xs).map fun z => .int .i64 z) ∧ Keeps (· = g) w w' ∧ Inv w' := by
  have hlen : xs.length = n := by have := h.length; simp at this; omega
  have HL := Lib.hid hlen
  have HC := Lib.hid hcmp
  have H1 := Lib.hid hI1
  have H2 := Lib.hid hI2
  have hgT : g < w.heap.size := h.lt rfl
  clear hlen hcmp hI1 hI2
  go_enter Tryz.func130, Tryz.ntmps130
  go_wp2_with fail
  go_loopw [8] (fun i wr => ∃ k : Nat, 1 ≤ k ∧ (k ≤ n ∨ k = 1) ∧ i = .int .i64 k ∧ Own wr T 3 1 (.slice (some ⟨g, 0, none⟩) n cap) n ((isortTo (fun a b => decide (cf a b < 0)) xs k).map fun z => .int .i64 z) ∧ Keeps (· = g) w wr ∧ Inv wr) (fun i _ => n - (intOf i).toNat)
  case atStart => exact ⟨1, by omega, .inr rfl, rfl, h, Keeps.refl _ _, h0⟩
  obtain ⟨k, hk1, hk2, rfl, ho, hkp, hi⟩ := hrel
  by_cases hlt : k < n
  · go_wp2_with fail
    obtain ⟨wo, rfl⟩ : ∃ wo : World, wo = wr := ⟨_, rfl⟩
    go_loopw [9] (fun j wr => ∃ (m : Nat) (D : List Int), m ≤ k ∧ j = .int .i64 m ∧ Own wr T 3 1 (.slice (some ⟨g, 0, none⟩) n cap) n (D.map fun z => .int .i64 z) ∧ (∀ x ∈ D, x ∈ xs) ∧ Hid (insDown (fun a b => decide (cf a b < 0)) m D = isortTo (fun a b => decide (cf a b < 0)) xs (k + 1)) ∧ Keeps (· = g) w wr ∧ Inv wr) (fun j _ => (intOf j).toNat)
    case atStart => exact ⟨k, _, Nat.le_refl _, rfl, ho, isortTo_mem _ _ _, by show _ = _; rw [isortTo], hkp, hi⟩
    obtain ⟨m, D, hm, rfl, ho2, hD, HD, hkp2, hi2⟩ := hrel
    have HDm := Lib.hid hD
    clear hD
    cases m with
    | zero =>
      go_wp2_with fail
      go_quiet (fail)
      go_wp2_with fail
      go_roundw
      case rel =>
        have e := HD.out
        simp only [insDown] at e
        exact ⟨k + 1, by omega, .inl (by omega), by go_num, e ▸ ho2.drewN _, hkp2.drewN _, H1.out _ _ hi2 ⟨rfl, rfl, rfl, Nat.le_refl _, fun _ _ => rfl⟩⟩
      case measure => simp [intOf]; omega
    | succ m =>
      have hDl : D.length = n := by have := ho2.length; simp at this; omega
      have hc1 := ho2.get (m + 1) (by omega)
      have hc0 := ho2.get m (by omega)
      have hgr : g < wr.heap.size := ho2.lt rfl
      obtain ⟨x1, hx1⟩ : ∃ x1, D[m + 1]? = some x1 := ⟨_, List.getElem?_eq_getElem (by omega)⟩
      obtain ⟨x0, hx0⟩ : ∃ x0, D[m]? = some x0 := ⟨_, List.getElem?_eq_getElem (by omega)⟩
      rw [List.getElem?_map, hx1] at hc1
      rw [List.getElem?_map, hx0] at hc0
      simp only [Option.map_some] at hc1 hc0
      have m1 := HDm.out _ (List.mem_of_getElem? hx1)
      have m0 := HDm.out _ (List.mem_of_getElem? hx0)
      have HX1 := Lib.hid hx1
      have HX0 := Lib.hid hx0
      clear hx1 hx0 hDl
      have HS := fun W => HC.out W x1 x0
      have HK := Lib.hid (fun W hW => HS W hW m1 m0)
      clear HS m1 m0
      have b1 : (0 : Int) ≤ (m : Int) + 1 := by omega
      have b2 : (m : Int) + 1 < n := by omega
      have b3 : (0 : Int) ≤ m := by omega
      have b4 : (m : Int) < n := by omega
      have b5 : IntKind.i64.wrap ((m : Int) + 1 - 1) = m := by rw [IntKind.wrap_i64]; omega
      have b6 : IntKind.i64.wrap (m : Int) = m := by rw [IntKind.wrap_i64]; omega
      by_cases hless : cf x1 x0 < 0
      · go_wp2_with fail
        go_region_held3 (fun w' => w'.cell? ⟨g, m + 1, none⟩ = some (.int .i64 x1) ∧ w'.cell? ⟨g, m, none⟩ = some (.int .i64 x0)) (go_keep) ((go_at_call 119; refine (HK.out _ (H1.out wr wr.drew hi2 ⟨rfl, rfl, rfl, Nat.le_refl _, fun _ _ => rfl⟩)).mono ?_; rintro e W1 ⟨rfl, hbW⟩; have e1 := hbW.cell (p := ⟨g, m + 1, none⟩) hgr; have e0 := hbW.cell (p := ⟨g, m, none⟩) hgr))
        have ho3 := ho2.drew.fresh hbW
        have hkp3 := hkp2.drew.fresh hbW
        have hi3 := H1.out _ _ (H1.out wr wr.drew hi2 ⟨rfl, rfl, rfl, Nat.le_refl _, fun _ _ => rfl⟩) hbW
        have hf1 := ho3.unfrozen (m + 1)
        have hf0 := ho3.unfrozen m
        have d1 : W1.cell? ⟨g, m + 1, none⟩ = some (.int .i64 x1) := by rw [e1]; exact hc1
        have d0 : W1.cell? ⟨g, m, none⟩ = some (.int .i64 x0) := by rw [e0]; exact hc0
        clear hc1 hc0 e1 e0 hbW
        go_wp2_with fail
        go_region
        go_wp2_with fail
        go_roundw
        case rel =>
          refine ⟨m, (D.set (m + 1) x0).set m x1, by omega, rfl, ?_, fun x hx => HDm.out x (mem_swap HX1.out HX0.out x hx), ?_, (Keeps.setCell (Keeps.setCell hkp3 (fun _ => rfl) _) (fun _ => rfl) _).drew, H1.out _ _ (H2.out _ _ _ (H2.out _ _ _ hi3)) ⟨rfl, rfl, rfl, Nat.le_refl _, fun _ _ => rfl⟩⟩
          · have := ((ho3.set (m + 1) (by omega) (.int .i64 x0)).set m (by omega) (.int .i64 x1)).drew
            simpa [List.map_set] using this
          · show _ = _
            rw [← HD.out, insDown_go _ m D x1 x0 HX1.out HX0.out (by simpa using hless)]
        case measure => simp [intOf]
      · go_wp2_with fail
        go_region_held3 (fun w' => w'.cell? ⟨g, m + 1, none⟩ = some (.int .i64 x1) ∧ w'.cell? ⟨g, m, none⟩ = some (.int .i64 x0)) (go_keep) ((go_at_call 119; refine (HK.out _ (H1.out wr wr.drew hi2 ⟨rfl, rfl, rfl, Nat.le_refl _, fun _ _ => rfl⟩)).mono ?_; rintro e W1 ⟨rfl, hbW⟩; have e1 := hbW.cell (p := ⟨g, m + 1, none⟩) hgr; have e0 := hbW.cell (p := ⟨g, m, none⟩) hgr))
        have ho3 := ho2.drew.fresh hbW
        have hkp3 := hkp2.drew.fresh hbW
        have hi3 := H1.out _ _ (H1.out wr wr.drew hi2 ⟨rfl, rfl, rfl, Nat.le_refl _, fun _ _ => rfl⟩) hbW
        clear hc1 hc0 e1 e0 hbW
        go_wp2_with fail
        go_roundw
        case rel =>
          have e := HD.out
          rw [insDown_stop _ m D x1 x0 HX1.out HX0.out (by simpa using hless)] at e
          exact ⟨k + 1, by omega, .inl (by omega), by go_num, e ▸ ho3, hkp3, hi3⟩
        case measure => simp [intOf]; omega
  · go_wp2_with fail
    go_end0
    by_cases hkn : k = n
    · subst hkn
      exact ⟨rfl, by rw [isort, HL.out]; exact ho, hkp, hi⟩
    · have hn0 : n = 0 := by omega
      have hx0 : xs = [] := List.eq_nil_of_length_eq_zero (by rw [HL.out]; exact hn0)
      have hk : k = 1 := by omega
      subst hk hx0
      exact ⟨rfl, ho, hkp, hi⟩
end

end Go.Proofs.YtedkfehdfmimoaaGreat

namespace Go.Proofs.YtedkfehdfmimoaaGreat
open Go.RowKit

def cmpI (x y : Int) : Int := if x < y then -1 else if y < x then 1 else 0

set_option maxHeartbeats 400000 in
theorem compare_any (x y : Int) (w : World) : Calls Tryz.prog 68 #[.int .i64 x, .int .i64 y] w fun e w' => e = .returned (.int .i64 (cmpI x y)) ∧ w = w' := by
  unfold cmpI
  by_cases h1 : x < y
  · rw [if_pos h1]
    go_enter Tryz.func68, Tryz.ntmps68
    go_wp2
    go_ret
    exact ⟨rfl, rfl⟩
  · rw [if_neg h1]
    by_cases h2 : y < x
    · rw [if_pos h2]
      go_enter Tryz.func68, Tryz.ntmps68
      go_wp2
      go_ret
      exact ⟨rfl, rfl⟩
    · rw [if_neg h2]
      go_enter Tryz.func68, Tryz.ntmps68
      go_wp2
      go_ret
      exact ⟨rfl, rfl⟩

def rankCmp (l : List Int) (a b : Int) : Int := cmpI (l.getD b.toNat 0) (l.getD a.toNat 0)
def order (n : Nat) : List Int := (List.range n).map Int.ofNat
def rankF (l : List Int) (k : Nat) : List Int := (isort (fun a b => decide (rankCmp l a b < 0)) (order l.length)).take k

set_option maxRecDepth 100000 in
set_option maxHeartbeats 1000000 in
theorem rank1_any (w : World) (T : Nat → Prop) (q : Nat) (v : Value) (l : List Int) (h : Slc w T v l) (hb : w.cell? ⟨q, 0, none⟩ = some v) (a b : Int) (ha : 0 ≤ a ∧ a < l.length) (hbb : 0 ≤ b ∧ b < l.length) :
    Calls Tryz.prog 119 #[.int .i64 a, .int .i64 b, .pointer (some ⟨q, 0, none⟩)] w fun e w' => e = .returned (.int .i64 (rankCmp l a b)) ∧ Below w.heap.size w w' := by
  obtain ⟨a, rfl⟩ := Int.eq_ofNat_of_zero_le ha.1
  obtain ⟨b, rfl⟩ := Int.eq_ofNat_of_zero_le hbb.1
  obtain ⟨A, c, rfl⟩ := h.len
  have hal : a < l.length := by omega
  have hbl : b < l.length := by omega
  obtain ⟨-, ad, rfl, ca⟩ := h.at_ a hal
  obtain ⟨-, ad', e, cb⟩ := h.at_ b hbl
  injection e with e
  subst e
  have ea : l[a] = l.getD a 0 := by simp [List.getD, hal]
  have eb : l[b] = l.getD b 0 := by simp [List.getD, hbl]
  unfold rankCmp
  rw [Int.toNat_natCast, Int.toNat_natCast]
  rw [ea] at ca
  rw [eb] at cb
  generalize l.getD a 0 = x at *
  generalize l.getD b 0 = y at *
  clear ea eb h
  obtain ⟨a1, a2⟩ := ha
  obtain ⟨b1, b2⟩ := hbb
  go_enter Tryz.func119, Tryz.ntmps119
  go_wp2_with fail
  go_quiet ((go_at_call 68; exact quiet_left (compare_any _ _ _)))
  go_wp2_with fail
  go_ret
  exact ⟨rfl, ⟨rfl, rfl, rfl, Nat.le_refl _, fun _ _ => rfl⟩⟩

set_option maxRecDepth 100000 in
set_option maxHeartbeats 1000000 in
theorem stable_small (w : World) (T : Nat → Prop) (g cap n : Nat) (xs : List Int) (h : Own w T 3 1 (.slice (some ⟨g, 0, none⟩) n cap) n (xs.map fun z => .int .i64 z)) (hn : n < 20) (cs : Array Value)
    (cf : Int → Int → Int) (Inv : World → Prop) (h0 : Inv w)
    (hI1 : ∀ W W', Inv W → Below W.heap.size W W' → Inv W') (hI2 : ∀ W j u, Inv W → Inv (W.setCell ⟨g, j, none⟩ u))
    (hcmp : ∀ W x y, Inv W → x ∈ xs → y ∈ xs → Calls Tryz.prog 119 (#[.int .i64 x, .int .i64 y] ++ cs) W fun e W' => e = .returned (.int .i64 (cf x y)) ∧ Below W.heap.size W W') :
    Calls Tryz.prog 128 #[.slice (some ⟨g, 0, none⟩) n cap, .int .i64 n, .func (.func 119) #[] cs] w fun e w' => e = .returned (.tuple #[]) ∧
      Own w' T 3 1 (.slice (some ⟨g, 0, none⟩) n cap) n ((isort (fun a b => decide (cf a b < 0)) xs).map fun z => .int .i64 z) ∧ Keeps (· = g) w w' ∧ Inv w' := by
  have hi := ins_ints w T g cap n xs h (by omega) cs cf Inv h0 hI1 hI2 hcmp
  have HI := Lib.hid hi
  clear hi hcmp hI1 hI2
  go_enter Tryz.func128, Tryz.ntmps128
  go_wp2_with fail
  refine wp_loop_rounds 1 ?_
  rw [rounds_succ]
  go_wp2_with fail
  refine HI.out.mono ?_
  rintro e w1 ⟨rfl, ho, hk, hinv⟩
  go_wp2_with fail
  refine wp_loop_rounds 1 ?_
  rw [rounds_succ]
  go_wp2_with fail
  go_end0
  exact ⟨rfl, ho, hk, hinv⟩

def ordTo (n j : Nat) : List Int := order j ++ List.replicate (n - j) 0
theorem ordTo_step (n j : Nat) (h : j < n) : (ordTo n j).set j (j : Int) = ordTo n (j + 1) := by
  unfold ordTo order
  rw [List.set_append_right _ _ (by simp), List.range_succ]
  simp only [List.length_map, List.length_range, Nat.sub_self, List.map_append, List.map_cons, List.map_nil, List.append_assoc]
  congr 1
  obtain ⟨m, hm⟩ : ∃ m, n - j = m + 1 := ⟨n - j - 1, by omega⟩
  rw [hm, List.replicate_succ, List.set_cons_zero, show n - (j + 1) = m from by omega]
  rfl
theorem ordTo_length (n j : Nat) (h : j ≤ n) : (ordTo n j).length = n := by simp [ordTo, order]; omega
theorem ordTo_full (n : Nat) : ordTo n n = order n := by simp [ordTo]
theorem order_mem {n : Nat} {x : Int} (h : x ∈ order n) : 0 ≤ x ∧ x < n := by
  obtain ⟨k, hk, rfl⟩ := List.mem_map.1 h
  simp at hk
  exact ⟨by simp, by simpa using hk⟩

set_option maxRecDepth 100000 in
set_option maxHeartbeats 1000000 in
theorem rank_any (w : World) (T : Nat → Prop) (v : Value) (l : List Int) (h : Slc w T v l) (hn : l.length < 20) (k : Nat) (hk : k ≤ l.length) :
    Calls Tryz.prog 98 #[v, .int .i64 k] w fun e w' => ∃ u, e = .returned u ∧ Slc w' (fun b => w.heap.size ≤ b) u (rankF l k) ∧ Below w.heap.size w w' := by
  obtain ⟨A, c, rfl⟩ := h.len
  go_enter Tryz.func98, Tryz.ntmps98
  go_wp2_with (at_make; refine wpList_make_ints _ rfl _ _ rfl _ _ l.length rfl rfl rfl rfl (by omega) ?_; intro w1 hown hb1 hz1)
  have ho0 : Own w1 (fun g => g = w.heap.size + 1) 3 1 (.slice (some ⟨w.heap.size + 1, 0, none⟩) l.length l.length) l.length (ints (ordTo l.length 0)) := by simpa [ordTo, order] using hown
  have hx1 := (h.old.alloc _).fresh hb1
  have hk1 := (Blk.new w 22 _).below hb1 (by simp)
  have b1 : Below w.heap.size w w1 := ((Below.refl _ _).alloc (Nat.le_refl _) _).trans (hb1.mono (by simp))
  clear hown hb1
  go_loopw [12] (fun i wr => ∃ j : Nat, j ≤ l.length ∧ i = .int .i64 j ∧ Own wr (fun g => g = w.heap.size + 1) 3 1 (.slice (some ⟨w.heap.size + 1, 0, none⟩) l.length l.length) l.length (ints (ordTo l.length j)) ∧ Keeps (· = w.heap.size + 1) w1 wr) (fun i _ => l.length - (intOf i).toNat)
  case atStart => exact ⟨0, Nat.zero_le _, rfl, ho0, Keeps.refl _ _⟩
  obtain ⟨j, hj, rfl, ho, hkp⟩ := hrel
  by_cases hlt : j < l.length
  · have hf := ho.unfrozen j
    have hc := ho.get j hlt
    rw [ints_get _ j (by rw [ordTo_length _ _ hj]; exact hlt)] at hc
    go_wp2_with fail
    go_roundw
    case rel =>
      refine ⟨j + 1, by omega, by go_num, ?_, Keeps.setCell hkp (fun _ => rfl) _⟩
      have := ho.set j hlt (.int .i64 j)
      rw [← ordTo_step _ _ hlt]
      simpa [ints, List.map_set] using this
    case measure => simp [intOf]; omega
  · obtain rfl : j = l.length := by omega
    rw [ordTo_full] at ho
    clear ho0
    have hG : w.heap.size + 1 < wr.heap.size := ho.lt rfl
    have hx2 : Slc wr (· < w.heap.size) (.slice A l.length c) l := hx1.keeps hkp (fun i hi => by omega)
    have hk2 : Blk wr w.heap.size 22 #[.slice A l.length c] := hkp.blk hk1 (by omega)
    have b2 : Below w.heap.size w wr := b1.trans ⟨hkp.os, hkp.tape, hkp.output, hkp.size, fun k hk => hkp.block k (by have := b1.size; omega) (by omega)⟩
    clear hx1 hk1 b1 hkp hlt
    have hs := stable_small wr (fun g => g = w.heap.size + 1) (w.heap.size + 1) l.length l.length (order l.length) ho hn #[.pointer (some ⟨w.heap.size, 0, none⟩)] (rankCmp l)
      (fun W => Blk W w.heap.size 22 #[.slice A l.length c] ∧ Slc W (· < w.heap.size) (.slice A l.length c) l ∧ w.heap.size + 1 < W.heap.size) ⟨hk2, hx2, hG⟩
      (fun W W' ⟨a1, a2, a3⟩ hb => ⟨a1.below hb (by omega), a2.fresh hb, Nat.lt_of_lt_of_le a3 hb.size⟩)
      (fun W j u ⟨a1, a2, a3⟩ => ⟨a1.far (by simp) u, a2.keeps (Keeps.setCell (Keeps.refl (· = w.heap.size + 1) W) (fun _ => rfl) u) (fun i hi => by omega), by simpa [World.setCell] using a3⟩)
      (fun W x y ⟨a1, a2, a3⟩ hx hy => rank1_any W _ _ _ l a2 (by simpa using a1.cell 0) x y (order_mem hx) (order_mem hy))
    have HS := Lib.hid hs
    clear hs hx2 hk2 h
    go_wp2_with (first | (go_at_call 128; refine HS.out.mono ?_; rintro e w3 ⟨rfl, ho3, hkp3, -, -, hz3⟩) | go_in)
    go_ret
    refine ⟨_, rfl, ?_, ?_⟩
    · have hl : (rankF l k).length = k := by simp [rankF, isort, isortTo_length, order]; omega
      refine ⟨some ⟨w.heap.size + 1, 0, none⟩, k, by rw [hl]; rfl, ?_, by omega, by unfold maxLen; omega, fun h => by cases h⟩
      have := (ho3.reads.take (k := k) hk).more (T' := fun b => w.heap.size ≤ b) fun b _ hb => by omega
      rw [hl]
      simpa [rankF, ints] using this
    · exact b2.trans ⟨hkp3.os, hkp3.tape, hkp3.output, hkp3.size, fun k hk => hkp3.block k (by omega) (by omega)⟩

def maxF : List Int → Int
  | [] => 0
  | x :: l => l.foldl max x
theorem maxF_take (l : List Int) (k : Nat) (h0 : 0 < k) (h : k < l.length) : maxF (l.take (k + 1)) = max (maxF (l.take k)) l[k] := by
  match l, h with
  | x :: l, h =>
    match k, h0 with
    | k + 1, _ =>
      simp only [List.take_succ_cons, maxF]
      rw [List.take_succ_eq_append_getElem (by simpa using h), List.foldl_append]
      rfl
theorem maxF_word (l : List Int) (hl : inRange (-2147483648) 2147483647 l) : word (maxF l) := by
  match l with
  | [] => exact ⟨by simp [maxF], by simp [maxF]⟩
  | x :: l =>
    have key : ∀ (l : List Int) (s : Int), word s → inRange (-2147483648) 2147483647 l → word (l.foldl max s) := by
      intro l
      induction l with
      | nil => exact fun s h _ => h
      | cons p l ih => exact fun s h h2 => ih _ (by have := h2 p (by simp); unfold word at *; omega) fun z hz => h2 z (by simp [hz])
    exact key l x (hl x (by simp)) fun z hz => hl z (by simp [hz])

set_option maxRecDepth 100000 in
set_option maxHeartbeats 1000000 in
theorem max_any (w : World) (T : Nat → Prop) (v : Value) (l : List Int) (h : Slc w T v l) (hn : l.length ≤ 1000000) (h0 : 0 < l.length) :
    Calls Tryz.prog 97 #[v] w fun e w' => e = .returned (.int .i64 (maxF l)) ∧ w = w' := by
  obtain ⟨A, c, rfl⟩ := h.len
  obtain ⟨-, ad, rfl, c0⟩ := h.at_ 0 h0
  rw [show ad.add 0 = ad from by simp [Addr.add]] at c0
  have e1 : RowKit.Hid (maxF (l.take 1) = l[0]) := by
    show _ = _
    match l, h0 with
    | x :: l, _ => simp [maxF]
  go_enter Tryz.func97, Tryz.ntmps97
  go_wp2_with fail
  go_loop [3, 4] (fun m i => ∃ k : Nat, 1 ≤ k ∧ k ≤ l.length ∧ i = .int .i64 k ∧ m = .int .i64 (maxF (l.take k))) (fun _ i => l.length - (intOf i).toNat)
  case atStart => exact ⟨1, by omega, by omega, rfl, by rw [e1.out]⟩
  obtain ⟨k, hk1, hk2, rfl, rfl⟩ := hrel
  by_cases hlt : k < l.length
  · obtain ⟨-, ad', e, ck⟩ := h.at_ k hlt
    injection e with e
    subst e
    have HM := Lib.hid (maxF_take l k (by omega) hlt)
    obtain ⟨x, hx⟩ : ∃ x, x = l[k] := ⟨_, rfl⟩
    rw [← hx] at ck HM
    clear hx
    go_wp2_with fail
    go_round
    case rel =>
      refine ⟨k + 1, by omega, by omega, by go_num, ?_⟩
      rw [HM.out]
      congr 1
      split <;> omega
    case measure => simp [intOf]; omega
  · obtain rfl : k = l.length := by omega
    have e2 : RowKit.Hid (maxF (l.take l.length) = maxF l) := by show _ = _; rw [List.take_length]
    go_wp2_with fail
    go_ret
    exact ⟨by rw [← e2.out]; rfl, rfl⟩
end Go.Proofs.YtedkfehdfmimoaaGreat

namespace Go.Proofs.YtedkfehdfmimoaaGreat
open Go.RowKit

def isum (l : List Int) : Int := l.foldl (· + ·) 0
theorem isum_from (l : List Int) : ∀ s : Int, l.foldl (· + ·) s = s + isum l := by
  induction l with
  | nil => intro s; simp [isum]
  | cons x l ih => intro s; simp only [isum, List.foldl_cons]; rw [ih, ih (0 + x)]; omega
theorem isum_cons (x : Int) (l : List Int) : isum (x :: l) = x + isum l := by
  rw [isum, List.foldl_cons, isum_from]; omega
theorem isum_take (l : List Int) (k : Nat) (h : k < l.length) : isum (l.take (k + 1)) = isum (l.take k) + l[k] := by
  rw [List.take_succ_eq_append_getElem h, isum, List.foldl_append]
  rfl
theorem isum_bounds (l : List Int) (m : Int) (h : inRange 0 m l) : 0 ≤ isum l ∧ isum l ≤ l.length * m := by
  induction l with
  | nil => simp [isum]
  | cons x l ih =>
    rw [isum_cons]
    have h1 := h x (by simp)
    have h2 := ih fun z hz => h z (by simp [hz])
    simp only [List.length_cons]
    have : ((l.length + 1 : Nat) : Int) * m = l.length * m + m := by rw [Int.natCast_add, Int.add_mul]; simp
    omega
def sampleGo : List Int → Int → Nat
  | [], _ => 0
  | x :: l, t => if x ≤ t then 1 + sampleGo l (t - x) else 0
def sampleF (l : List Int) (d : Int) : Nat := sampleGo l (d * isum l / 4294967296)
theorem sampleGo_lt (l : List Int) : ∀ t : Int, 0 ≤ t → t < isum l → sampleGo l t < l.length := by
  induction l with
  | nil => intro t h1 h2; simp [isum] at h2; omega
  | cons x l ih =>
    intro t h1 h2
    rw [isum_cons] at h2
    unfold sampleGo
    split
    · have := ih (t - x) (by omega) (by omega)
      simp
      omega
    · simp
theorem sample_at (l : List Int) (d : Int) (hd : 0 ≤ d ∧ d < 4294967296) (hs : 0 < isum l) : 0 ≤ d * isum l / 4294967296 ∧ d * isum l / 4294967296 < isum l := by
  have h1 : 0 ≤ d * isum l := Int.mul_nonneg hd.1 (by omega)
  have h2 : d * isum l < 4294967296 * isum l := Int.mul_lt_mul_of_pos_right hd.2 hs
  exact ⟨by omega, by omega⟩
theorem sampleF_lt (l : List Int) (d : Int) (hd : 0 ≤ d ∧ d < 4294967296) (hs : 0 < isum l) : sampleF l d < l.length :=
  have h := sample_at l d hd hs
  sampleGo_lt l _ h.1 h.2

set_option maxRecDepth 100000 in
set_option maxHeartbeats 1000000 in
theorem sample_any (w : World) (T : Nat → Prop) (v : Value) (l : List Int) (h : Slc w T v l) (hn : l.length ≤ 1024) (hr : inRange 0 1000000 l) (hs : 0 < isum l) (d : Int) (hd : 0 ≤ d ∧ d < 4294967296) :
    Calls Tryz.prog 82 #[v, .int .i64 d] w fun e w' => e = .returned (.int .i64 (sampleF l d)) ∧ w = w' := by
  obtain ⟨A, c, rfl⟩ := h.len
  obtain ⟨d1, d2⟩ := hd
  have hb := isum_bounds l 1000000 hr
  obtain ⟨t1, t2⟩ := sample_at l d ⟨d1, d2⟩ hs
  have p1 : 0 ≤ d * isum l := Int.mul_nonneg d1 (by omega)
  have p2 : d * isum l < 4294967296 * isum l := Int.mul_lt_mul_of_pos_right d2 hs
  have hpos : 0 < l.length := by
    match l, hs with
    | [], hs => simp [isum] at hs
    | x :: l, _ => simp
  go_enter Tryz.func82, Tryz.ntmps82
  go_wp2_with fail
  go_loop [5, 12] (fun s i => ∃ k : Nat, k ≤ l.length ∧ i = .int .i64 k ∧ s = .int .i64 (isum (l.take k))) (fun _ i => l.length - (intOf i).toNat)
  case atStart => exact ⟨0, by omega, rfl, rfl⟩
  obtain ⟨k, hk, rfl, rfl⟩ := hrel
  by_cases hlt : k < l.length
  · obtain ⟨-, ad, rfl, ck⟩ := h.at_ k hlt
    have HM := Lib.hid (isum_take l k hlt)
    have hb1 := isum_bounds (l.take k) 1000000 fun z hz => hr z (List.mem_of_mem_take hz)
    have hx := hr _ (List.getElem_mem hlt)
    rw [List.length_take, Nat.min_eq_left hk] at hb1
    obtain ⟨x, hx'⟩ : ∃ x, x = l[k] := ⟨_, rfl⟩
    rw [← hx'] at ck HM hx
    clear hx'
    go_wp2_with fail
    go_round
    case rel => exact ⟨k + 1, by omega, by go_num, by rw [HM.out]⟩
    case measure => simp [intOf]; omega
  · obtain rfl : k = l.length := by omega
    have e : isum (l.take l.length) = isum l := by rw [List.take_length]
    rw [e]
    clear e
    go_wp2_with fail
    have HF : RowKit.Hid (sampleGo l (d * isum l / 4294967296) = sampleF l d) := rfl
    generalize d * isum l / 4294967296 = t0 at *
    go_loop [8, 9] (fun t i => ∃ (k : Nat) (t' : Int), i = .int .i64 k ∧ t = .int .i64 t' ∧ 0 ≤ t' ∧ t' < isum (l.drop k) ∧ Hid (k + sampleGo (l.drop k) t' = sampleF l d)) (fun _ i => l.length - (intOf i).toNat)
    case atStart => exact ⟨0, t0, rfl, rfl, t1, t2, by show _ = _; rw [← HF.out]; simp⟩
    obtain ⟨k, t', rfl, rfl, u1, u2, HK⟩ := hrel
    have hlt : k < l.length := by
      rcases Nat.lt_or_ge k l.length with h | h
      · exact h
      · rw [List.drop_of_length_le h] at u2
        simp [isum] at u2
        omega
    obtain ⟨-, ad, rfl, ck⟩ := h.at_ k hlt
    have HD := Lib.hid (List.drop_eq_getElem_cons hlt)
    have hx := hr _ (List.getElem_mem hlt)
    obtain ⟨x, hx'⟩ : ∃ x, x = l[k] := ⟨_, rfl⟩
    rw [← hx'] at ck HD hx
    clear hx'
    have hb2 := isum_bounds (l.drop k) 1000000 fun z hz => hr z (List.mem_of_mem_drop hz)
    rw [List.length_drop] at hb2
    have u3 : t' ≤ 1024000000 := by omega
    have HU := Lib.hid u2
    clear u2 hb2
    by_cases hge : x ≤ t'
    · go_wp2_with fail
      go_round
      case rel =>
        refine ⟨k + 1, t' - x, by go_num, rfl, by omega, ?_, ?_⟩
        · have := HU.out
          rw [HD.out, isum_cons] at this
          omega
        · have := HK.out
          rw [HD.out, sampleGo, if_pos (by omega)] at this
          show _ = _
          omega
      case measure => simp [intOf]; omega
    · go_wp2_with fail
      go_ret
      have := HK.out
      rw [HD.out, sampleGo, if_neg (by omega)] at this
      exact ⟨by rw [← this]; rfl, rfl⟩
end Go.Proofs.YtedkfehdfmimoaaGreat

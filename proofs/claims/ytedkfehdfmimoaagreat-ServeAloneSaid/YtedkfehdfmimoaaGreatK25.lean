/- New. The tokens of a request alone, and that the server makes the same. New, the walk. Demo. The first state is Ok; Now. Waiting. Log. The methods of Stream: each returns some number of its range, moves the stream's place, and keeps all else. Conditions: none beside the stream's own form. -/
import Derived.Test.YtedkfehdfmimoaaGreatK24
import Derived.Test.YtedkfehdfmimoaaGreatK15
import Derived.Deep.DeepCutAuto
import Derived.Laws.MakeOwn
import Derived.Test.YtedkfehdfmimoaaGreatK22
import Derived.Test.YtedkfehdfmimoaaGreatK16
import Derived.Laws.Rows
import Derived.Test.YtedkfehdfmimoaaGreatK20
import Derived.Test.YtedkfehdfmimoaaGreatK17
import Derived.Test.YtedkfehdfmimoaaGreatRows
import Derived.Test.YtedkfehdfmimoaaGreatK1
namespace Go.Proofs.YtedkfehdfmimoaaGreat
open Go.RowKit

def CConf.ns (c : CConf) : List Int := [(c.pages : Int), c.pageSize, c.batch, c.queue]
def Srv.init (M : Model) (c : CConf) : Srv := ⟨M, c, 0, [], List.replicate c.pages zeroPage, headF M c.ns, 0, 28, false⟩
theorem mcell_set (M : Model) (vs : List Value) (k : Nat) (x : Value) : (mcell M vs).setIfInBounds (4 + k) x = mcell M (vs.set k x) := by
  apply Array.toList_inj.1
  unfold mcell
  simp [List.set_append, show ¬ 4 + k < 4 by omega]
  rw [show 4 + k = k + 4 by omega]
  rfl
theorem mcell_get (M : Model) (vs : List Value) (k : Nat) : (mcell M vs)[4 + k]? = vs[k]? := by
  rw [← Array.getElem?_toList]
  unfold mcell
  simp
  rw [show 4 + k = k + 4 by omega]
  simp

theorem page_info : (Tryz.prog.info? 106).map (fun i => (i.zero, i.size, i.bytes)) = some (some (.agg #[.int .i64 0, .slice none 0 0, .int .i64 0, .int .i64 0]), 4, 48) := by kernel_rfl
def zeroCells : Array Value := #[.int .i64 0, .slice none 0 0, .int .i64 0, .int .i64 0]
theorem zero_length (n : Nat) : ∀ m, (pagesFrom (fun _ => .slice none 0 0) m (List.replicate n zeroPage)).length = n * 4 := by
  induction n with
  | zero => intro m; rfl
  | succ n ih => intro m; simp only [List.replicate_succ, pagesFrom, List.length_append, ih]; simp [pageCell]; omega
theorem zero_get (n : Nat) : ∀ m i, i < n * 4 → (pagesFrom (fun _ => .slice none 0 0) m (List.replicate n zeroPage))[i]? = some (zeroCells[i % 4]!) := by
  induction n with
  | zero => intro m i h; omega
  | succ n ih =>
    intro m i h
    simp only [List.replicate_succ, pagesFrom]
    match i with
    | 0 => rfl
    | 1 => rfl
    | 2 => rfl
    | 3 => rfl
    | i + 4 =>
      rw [List.getElem?_append_right (by simp [pageCell]), show i + 4 - (pageCell (.slice none 0 0) zeroPage).length = i by simp [pageCell], ih (m + 1) i (by omega), Nat.add_mod_right]
theorem made_pages (n : Nat) : madeCells zeroCells (n * 4) = (pagesFrom (fun _ => .slice none 0 0) 0 (List.replicate n zeroPage)).toArray := by
  apply Array.toList_inj.1
  apply List.ext_getElem?
  intro i
  by_cases hi : i < n * 4
  · rw [List.toList_toArray, zero_get n 0 i hi]
    simp [madeCells, hi, zeroCells]
  · rw [List.getElem?_eq_none (l := (pagesFrom (fun _ => .slice none 0 0) 0 (List.replicate n zeroPage)).toArray.toList) (by rw [List.toList_toArray, zero_length]; omega), List.getElem?_eq_none (by simp [madeCells]; omega)]

theorem rep_init (wf : World) (M : Model) (c : CConf) (sb mb pb zW zr z' : Nat) (x4 x5 x6 x7 x8 x9 x10 vlog : Value)
    (ks : Blk wf sb 70 #[.int .i64 M.kind, .int .i64 M.vocab, .int .i64 M.width, .int .i64 M.top, x4, x5, x6, x7, x8, x9, x10, .int .i64 c.pages, .int .i64 c.pageSize, .int .i64 c.batch, .int .i64 c.queue, .int .i64 M.vocab, .int .i64 0, .map (some mb), .slice (some ⟨pb, 0, none⟩) c.pages c.pages, vlog, .int .i64 0, .int .i64 28, .bool false])
    (km : MapIs wf mb []) (kp : Blk wf pb 106 (pagesFrom (fun _ => .slice none 0 0) 0 (List.replicate c.pages zeroPage)).toArray)
    (hl : Own wf (fun g => z' ≤ g) 5 1 vlog 28 (bytes (headF M c.ns))) (hll : (headF M c.ns).length = 28) (hm : MSl wf (fun g => zW ≤ g ∧ g < zr) M x4 x5 x6 x7 x8 x9 x10)
    (hs : zr ≤ sb ∧ sb < z') (hmb : zr ≤ mb ∧ mb < z') (hpb : zr ≤ pb ∧ pb < z') (d1 : sb ≠ mb) (d2 : sb ≠ pb) (d3 : mb ≠ pb) (hz : zW ≤ zr) (hwf : z' ≤ wf.heap.size) :
    ∃ own P, sb = P.sa ∧ Rep wf own P (Srv.init M c) ∧ ∀ g, g < zW → own g = .other := by
  obtain ⟨own, ho⟩ : ∃ own : Nat → Slot, own = fun g => if g = sb then .server else if g = mb then .map else if g = pb then .pages else if z' ≤ g ∧ g < wf.heap.size then .log else if zW ≤ g ∧ g < zr then .model else .other := ⟨_, rfl⟩
  refine ⟨own, ⟨sb, mb, pb, fun _ => 0, fun _ => .slice none 0 0, fun _ => .slice none 0 0, fun _ => .slice none 0 0, fun _ => .slice none 0 0, vlog, x4, x5, x6, x7, x8, x9, x10⟩, rfl, ⟨?_, ?_, km, ?_, fun i hi => absurd hi (by simp [Srv.init]), kp, ?_, fun k hk => ?_, ?_, ?_, fun g hg => ?_⟩, fun g hg => ?_⟩
  · have e : serverCells ⟨sb, mb, pb, fun _ => 0, fun _ => .slice none 0 0, fun _ => .slice none 0 0, fun _ => .slice none 0 0, fun _ => .slice none 0 0, vlog, x4, x5, x6, x7, x8, x9, x10⟩ (Srv.init M c) = #[.int .i64 M.kind, .int .i64 M.vocab, .int .i64 M.width, .int .i64 M.top, x4, x5, x6, x7, x8, x9, x10, .int .i64 c.pages, .int .i64 c.pageSize, .int .i64 c.batch, .int .i64 c.queue, .int .i64 M.vocab, .int .i64 0, .map (some mb), .slice (some ⟨pb, 0, none⟩) c.pages c.pages, vlog, .int .i64 0, .int .i64 28, .bool false] := by
      simp [serverCells, Srv.init]
    rw [e]; exact ks
  · rw [ho]; simp
  · rw [ho]; simp [Ne.symm d1]
  · rw [ho]; simp [Ne.symm d2, Ne.symm d3]
  · have e : (Srv.init M c).pages[k] = zeroPage := by simp [Srv.init]
    rw [e]
    exact Own.nil_ _ _ _ _
  · have e : (Srv.init M c).log.length = 28 := hll
    rw [e]
    refine hl.more fun g hg h => ?_
    rw [ho]
    simp only [show ¬ g = sb by omega, show ¬ g = mb by omega, show ¬ g = pb by omega, if_false, show z' ≤ g ∧ g < wf.heap.size from ⟨h, hg⟩, and_self, if_true]
  · refine hm.more fun g hg h => ?_
    rw [ho]
    simp only [show ¬ g = sb by omega, show ¬ g = mb by omega, show ¬ g = pb by omega, if_false, show ¬ (z' ≤ g ∧ g < wf.heap.size) by omega, h, and_self, if_true]
  · rw [ho]
    simp only [show ¬ g = sb by omega, show ¬ g = mb by omega, show ¬ g = pb by omega, if_false, show ¬ (z' ≤ g ∧ g < wf.heap.size) by omega, show ¬ (zW ≤ g ∧ g < zr) by omega]
  · rw [ho]
    simp only [show ¬ g = sb by omega, show ¬ g = mb by omega, show ¬ g = pb by omega, if_false, show ¬ (z' ≤ g ∧ g < wf.heap.size) by omega, show ¬ (zW ≤ g ∧ g < zr) by omega]

end Go.Proofs.YtedkfehdfmimoaaGreat

namespace Go.Proofs.YtedkfehdfmimoaaGreat
open Go.RowKit

def gen (M : Model) (seed : Int) (p : List Int) : Nat → List Int
  | 0 => []
  | k + 1 => gen M seed p k ++ [((M.next (entriesOf M (p ++ gen M seed p k)) (drawF seed k) : Nat) : Int)]
def tokA (M : Model) (seed : Int) (p : List Int) (k : Nat) : Int := (M.next (entriesOf M (p ++ gen M seed p k)) (drawF seed k) : Nat)
theorem gen_succ (M : Model) (seed : Int) (p : List Int) (k : Nat) : gen M seed p (k + 1) = gen M seed p k ++ [tokA M seed p k] := rfl
theorem gen_length (M : Model) (seed : Int) (p : List Int) (k : Nat) : (gen M seed p k).length = k := by
  induction k with
  | zero => rfl
  | succ k ih => rw [gen_succ, List.length_append, ih]; rfl
def stopA (M : Model) (seed : Int) (p : List Int) (most : Int) (k : Nat) : Prop := tokA M seed p k = 0 ∨ (k : Int) + 1 = most
/-- K tokens are what the request has alone -/
structure IsAlone (M : Model) (seed : Int) (p : List Int) (most : Int) (K : Nat) : Prop where
  one : 1 ≤ K
  stop : stopA M seed p most (K - 1)
  first : ∀ j, j < K - 1 → ¬ stopA M seed p most j
theorem IsAlone.unique {M : Model} {seed : Int} {p : List Int} {most : Int} {K L : Nat} (h : IsAlone M seed p most K) (k : IsAlone M seed p most L) : K = L := by
  have h1 := h.one
  have k1 := k.one
  rcases Nat.lt_trichotomy K L with e | e | e
  · exact absurd h.stop (k.first _ (by omega))
  · exact e
  · exact absurd k.stop (h.first _ (by omega))
structure Good (M : Model) (r : Req) : Prop where
  toks : r.tokens = r.prompt ++ gen M r.seed r.prompt r.made
  yet : r.ended = false → ∀ j, j < r.made → ¬ stopA M r.seed r.prompt r.most j
  fin : r.ended = true → r.err = 0 → IsAlone M r.seed r.prompt r.most r.made
  err : r.ended = true → r.err = 0 ∨ r.err = 18
theorem Good.tok_eq {M : Model} {r : Req} (h : Good M r) : nextTok M r = tokA M r.seed r.prompt r.made := by
  unfold nextTok tokA
  rw [h.toks]
theorem Good.stops_iff {M : Model} {r : Req} (h : Good M r) : stops M r ↔ stopA M r.seed r.prompt r.most r.made := by
  unfold stops stopA
  rw [h.tok_eq]
theorem Good.closed (M : Model) (now : Nat) : Closed M now fun _ r => Good M r where
  core := by
    intro _ r r' h hq
    obtain ⟨e1, e2, e3, e4, e5, e6, e7, e8, e9, e10⟩ := core_id h
    refine ⟨by rw [e6, e3, e5, e7]; exact hq.toks, ?_, ?_, ?_⟩
    · rw [e8, e7, e5, e3, e4]; exact hq.yet
    · rw [e8, e9, e7, e5, e3, e4]; exact hq.fin
    · rw [e8, e9]; exact hq.err
  made := by
    intro _ r h1 h2 hq
    refine ⟨?_, fun _ j hj => ?_, fun h => (by rw [show (madeReq M r).ended = r.ended from rfl, h1] at h; cases h), fun h => (by rw [show (madeReq M r).ended = r.ended from rfl, h1] at h; cases h)⟩
    · show r.tokens ++ [nextTok M r] = r.prompt ++ gen M r.seed r.prompt (r.made + 1)
      rw [gen_succ, hq.tok_eq, hq.toks, List.append_assoc]
    · show ¬ stopA M r.seed r.prompt r.most j
      have hj' : j < r.made + 1 := hj
      by_cases e : j = r.made
      · subst e; exact fun h => h2 (hq.stops_iff.2 h)
      · exact hq.yet h1 j (by omega)
  fin := by
    intro _ r h1 h2 hq
    refine ⟨?_, fun h => (by cases h), fun _ _ => ⟨by show 1 ≤ r.made + 1; omega, hq.stops_iff.1 h2, fun j hj => ?_⟩, fun _ => Or.inl rfl⟩
    · show r.tokens ++ [nextTok M r] = r.prompt ++ gen M r.seed r.prompt (r.made + 1)
      rw [gen_succ, hq.tok_eq, hq.toks, List.append_assoc]
    · exact hq.yet h1 j (by have hj' : j < r.made + 1 - 1 := hj; omega)
  late := by
    intro _ r _ _ hq
    exact ⟨hq.toks, fun h => (by cases h), fun _ h => (by cases h), fun _ => Or.inr rfl⟩
theorem Good.settle {M : Model} {r : Req} (n : Nat) (h : Good M r) : Good M (settleReq n r) := by
  unfold settleReq
  split
  · exact ⟨h.toks, h.yet, h.fin, h.err⟩
  · exact h
/-- the request is that of a call -/
def AskOf (r : Ask) (q : Req) : Prop := q.id = r.id ∧ q.deadline = r.deadline ∧ q.prompt = r.prompt ∧ q.most = r.most ∧ q.seed = r.seed
theorem AskOf.closed (M : Model) (now : Nat) (f : Nat → Option Ask) : Closed M now fun i q => ∀ r, f i = some r → AskOf r q where
  core := by
    intro i q q' h hq r hr
    obtain ⟨e1, e2, e3, e4, e5, -⟩ := core_id h
    have := hq r hr
    unfold AskOf at this ⊢
    rw [e1, e2, e3, e4, e5]
    exact this
  made := fun _ _ _ _ hq r hr => hq r hr
  fin := fun _ _ _ _ hq r hr => hq r hr
  late := fun _ _ _ _ hq r hr => hq r hr
theorem settleReq_ask {r : Ask} {q : Req} (n : Nat) (h : AskOf r q) : AskOf r (settleReq n q) := by
  unfold settleReq
  split
  · exact h
  · exact h

/-- What holds in ServeAlone of the server and of the calls that were accepted. -/
structure Run (s : Srv) (asked : List Ask) : Prop where
  ok : s.Ok
  ids : s.Ids
  replay : s.replay = false
  now : s.now ≤ s.records
  good : ∀ i, i < s.reqs.length → Good s.M (s.req i)
  many : asked.length = s.reqs.length
  ask : ∀ i r, asked[i]? = some r → AskOf r (s.req i)
theorem Run.init (M : Model) (hM : M.Ok) (hk : M.kind = 1) (c : CConf) (hc : c.Ok) (h : (Srv.init M c).Ok) : Run (Srv.init M c) [] :=
  ⟨h, fun i hi => by simp [Srv.init] at hi, rfl, Nat.zero_le _, fun i hi => by simp [Srv.init] at hi, rfl, fun i r h => by simp at h⟩
theorem Run.tick {s : Srv} {asked : List Ask} (h : Run s asked) (hrec : s.records ≤ 9000) : Run s.tick asked ∧ Ticked s s.tick ∧ (∀ i, i < s.reqs.length → (s.tick.req i).deadline = (s.req i).deadline) ∧ ∀ i, i < s.reqs.length → (s.tick.req i).ended = false → (s.now : Int) + 1 ≤ (s.tick.req i).deadline := by
  obtain ⟨t, a1, a2⟩ := tick_all _ s h.ok h.now hrec (Good.closed s.M (s.now + 1))
  obtain ⟨-, b1, -⟩ := tick_all _ s h.ok h.now hrec (AskOf.closed s.M (s.now + 1) fun i => asked[i]?)
  have hask : ∀ i r, asked[i]? = some r → AskOf r (s.tick.req i) := fun i r hr => by
    obtain ⟨q, hq, e⟩ := b1 i (fun r' hr' => h.ask i r' hr') (by have := (List.getElem?_eq_some_iff.1 hr).1; rw [h.many] at this; exact this)
    rw [e]
    exact settleReq_ask _ (hq r hr)
  have hget : ∀ i, i < s.reqs.length → ∃ r, asked[i]? = some r := fun i hi => ⟨_, List.getElem?_eq_getElem (by rw [h.many]; exact hi)⟩
  refine ⟨⟨t.ok, ?_, by rw [t.replay]; exact h.replay, by rw [t.now, t.records]; have := h.now; omega, ?_, by rw [t.nreqs]; exact h.many, hask⟩, t, ?_, a2⟩
  · intro i hi
    rw [t.nreqs] at hi
    obtain ⟨r, hr⟩ := hget i hi
    rw [(hask i r hr).1, ← (h.ask i r hr).1]
    exact h.ids i hi
  · intro i hi
    rw [t.nreqs] at hi
    rw [t.M]
    obtain ⟨q, hq, e⟩ := a1 i (h.good i hi) hi
    rw [e]
    exact hq.settle _
  · intro i hi
    obtain ⟨r, hr⟩ := hget i hi
    rw [(hask i r hr).2.1, ← (h.ask i r hr).2.1]
theorem Run.submit {s : Srv} {asked : List Ask} (h : Run s asked) (hrec : s.records ≤ 9000) (r : Ask) (hr : r.id ≤ 9) : if (s.submit r).2 = 0 then Run (s.submit r).1 (asked ++ [r]) ∧ (s.submit r).1.records = s.records + 1 ∧ (s.submit r).1.now = s.now ∧ (s.submit r).1.M = s.M ∧ (s.submit r).1.c = s.c ∧
      (∀ i, i < (s.submit r).1.reqs.length → (((s.submit r).1.req i).deadline = r.deadline ∨ i < s.reqs.length ∧ ((s.submit r).1.req i).deadline = (s.req i).deadline)) ∧ 1 ≤ r.most ∧ r.most ≤ 32 ∧ -2147483648 ≤ r.seed ∧ r.seed ≤ 2147483647 ∧ 1 ≤ r.prompt.length ∧ r.prompt.length ≤ 32 ∧ (∀ t ∈ r.prompt, 0 ≤ t ∧ t < (s.M.vocab : Int)) ∧ 1 ≤ r.id else (s.submit r).1 = s := by
  by_cases h0 : s.accErr r = 0
  · have e2 : (s.submit r).2 = 0 := by unfold Srv.submit; rw [if_pos h0]
    rw [if_pos e2]
    obtain ⟨a1, a2, a3⟩ := submit_ok s h.ok h.ids hrec r hr h0
    have hq : ∀ i, (s.submit r).1.req i = if i < s.reqs.length then s.req i else if i = s.reqs.length then newReq r else zeroReq := fun i => by rw [a3]; exact add_req s (newReq r) i
    have hl : (s.submit r).1.reqs.length = s.reqs.length + 1 := by rw [a3]; show (s.reqs ++ [newReq r]).length = _; simp
    have hM : (s.submit r).1.M = s.M := by rw [a3]; rfl
    obtain ⟨b1, b2, b3, b4, b5, b6⟩ := accErr_ok h0
    obtain ⟨i1, i2, i3, i4, i5, i6, i7, i8⟩ := b1
    have htok : ∀ t ∈ r.prompt, 0 ≤ t ∧ t < (s.M.vocab : Int) := by
      intro t ht
      rw [List.any_eq_false] at b3
      have := b3 t ht
      unfold badTok at this
      simp at this
      omega
    refine ⟨⟨a1, a2, by rw [a3]; exact h.replay, ?_, ?_, by rw [hl, List.length_append, h.many]; rfl, ?_⟩, by rw [a3]; rfl, by rw [a3]; rfl, hM, by rw [a3]; rfl, ?_, i5, i6, i7, i8, b2.1, b2.2, htok, i1⟩
    · rw [a3]
      show s.now ≤ s.records + 1
      have := h.now
      omega
    · intro i hi
      rw [hl] at hi
      rw [hq, hM]
      by_cases h1 : i < s.reqs.length
      · rw [if_pos h1]; exact h.good i h1
      · rw [if_neg h1, if_pos (by omega)]
        exact ⟨(List.append_nil _).symm, fun _ j hj => absurd hj (Nat.not_lt_zero _), fun h => (by cases h), fun h => (by cases h)⟩
    · intro i q hi
      rw [hq]
      have hil := (List.getElem?_eq_some_iff.1 hi).1
      rw [List.length_append, h.many] at hil
      simp only [List.length_singleton] at hil
      by_cases h1 : i < s.reqs.length
      · rw [if_pos h1]
        rw [List.getElem?_append_left (by rw [h.many]; exact h1)] at hi
        exact h.ask i q hi
      · rw [if_neg h1, if_pos (by omega)]
        rw [List.getElem?_append_right (by rw [h.many]; omega), h.many, show i - s.reqs.length = 0 by omega] at hi
        simp only [List.getElem?_cons_zero, Option.some.injEq] at hi
        subst hi
        exact ⟨rfl, rfl, rfl, rfl, rfl⟩
    · intro i hi
      rw [hl] at hi
      rw [hq]
      by_cases h1 : i < s.reqs.length
      · rw [if_pos h1]; exact Or.inr ⟨h1, rfl⟩
      · rw [if_neg h1, if_pos (by omega)]; exact Or.inl rfl
  · have e : s.submit r = (s, s.accErr r) := by unfold Srv.submit; rw [if_neg h0]
    rw [e, if_neg h0]
/-- when all have ended and all is synced, each is answered as it would be alone, or is late -/
theorem Run.answer {s : Srv} {asked : List Ask} (h : Run s asked) (hop : s.open_ = []) (hsy : s.synced = s.log.length) (r : Ask) (hr : r ∈ asked) :
    s.answer r.id = ([], 18, true) ∨ ∃ K, IsAlone s.M r.seed r.prompt r.most K ∧ s.answer r.id = (gen s.M r.seed r.prompt K, 0, true) := by
  obtain ⟨i, hi, hri⟩ := List.mem_iff_getElem.1 hr
  have hri' : asked[i]? = some r := by rw [List.getElem?_eq_getElem hi, hri]
  obtain ⟨e1, e2, e3, e4, e5⟩ := h.ask i r hri'
  have hil : i < s.reqs.length := by rw [← h.many]; exact hi
  have hf : s.find r.id = some i := by
    cases hfi : s.find r.id with
    | none => exact absurd e1 ((find_iff s r.id).1 hfi i hil)
    | some j =>
      obtain ⟨j1, j2⟩ := find_some hfi
      rw [h.ok.distinct j i j1 hil (j2.trans e1.symm)]
  have hend : (s.req i).ended = true := by
    cases he : (s.req i).ended with
    | true => rfl
    | false =>
      have := (s.open_mem i).2 ⟨hil, he⟩
      rw [hop] at this
      cases this
  have htold : s.told (s.req i) = true := by
    unfold Srv.told
    have := (h.ok.reqs i hil).kept.2
    rw [hend, hsy]
    simp [this]
  have hg := h.good i hil
  have ha : s.answer r.id = if (s.req i).err ≠ 0 then ([], (s.req i).err, true) else ((s.req i).tokens.drop (s.req i).prompt.length, 0, true) := by
    unfold Srv.answer
    rw [hf]
    dsimp only
    rw [if_pos htold]
  by_cases hz : (s.req i).err = 0
  · refine Or.inr ⟨(s.req i).made, ?_, ?_⟩
    · have := hg.fin hend hz
      rwa [e3, e4, e5] at this
    · rw [ha, if_neg (by simp [hz]), hg.toks, List.drop_left, e3, e5]
  · refine Or.inl ?_
    rw [ha, if_pos hz]
    rcases hg.err hend with e | e
    · exact absurd e hz
    · rw [e]
end Go.Proofs.YtedkfehdfmimoaaGreat

namespace Go.Proofs.YtedkfehdfmimoaaGreat
open Go.RowKit

theorem headF_length (M : Model) (c : CConf) : (headF M c.ns).length = 28 := by
  unfold headF
  rw [sealF_length, headTo_length _ _ _ (Nat.le_refl _)]
  rfl
set_option maxRecDepth 100000 in
set_option maxHeartbeats 2000000 in
theorem new_any (w : World) (T : Nat → Prop) (M : Model) (v4 v5 v6 v7 v8 v9 v10 : Value) (h : MSl w T M v4 v5 v6 v7 v8 v9 v10) (hM : M.Ok) (hk : M.kind = 1) (c : CConf) (hc : c.Ok) :
    Calls Tryz.prog 7 #[.agg #[.int .i64 M.kind, .int .i64 M.vocab, .int .i64 M.width, .int .i64 M.top, v4, v5, v6, v7, v8, v9, v10], .agg #[.int .i64 c.pages, .int .i64 c.pageSize, .int .i64 c.batch, .int .i64 c.queue]] w fun e w' => ∃ own P, e = .returned (.tuple #[.pointer (some ⟨P.sa, 0, none⟩), .int .i64 0]) ∧ Rep w' own P (Srv.init M c) ∧ (∀ g, g < w.heap.size → own g = .other) ∧ Below w.heap.size w w' := by
  have hb0 : Below w.heap.size w ((w.alloc (.cells #[.int .i64 M.kind, .int .i64 M.vocab, .int .i64 M.width, .int .i64 M.top, v4, v5, v6, v7, v8, v9, v10] 27)).alloc (.cells #[.int .i64 c.pages, .int .i64 c.pageSize, .int .i64 c.batch, .int .i64 c.queue] 30)) := ((Below.refl _ _).alloc (Nat.le_refl _) _).alloc (by simp) _
  have kb := (Blk.new w 27 #[.int .i64 M.kind, .int .i64 M.vocab, .int .i64 M.width, .int .i64 M.top, v4, v5, v6, v7, v8, v9, v10]).alloc (.cells #[.int .i64 c.pages, .int .i64 c.pageSize, .int .i64 c.batch, .int .i64 c.queue] 30)
  have kc := Blk.new (w.alloc (.cells #[.int .i64 M.kind, .int .i64 M.vocab, .int .i64 M.width, .int .i64 M.top, v4, v5, v6, v7, v8, v9, v10] 27)) 30 #[.int .i64 c.pages, .int .i64 c.pageSize, .int .i64 c.batch, .int .i64 c.queue]
  rw [show (w.alloc (.cells #[.int .i64 M.kind, .int .i64 M.vocab, .int .i64 M.width, .int .i64 M.top, v4, v5, v6, v7, v8, v9, v10] 27)).heap.size = w.heap.size + 1 by simp] at kc
  have HVO := Lib.hid (vocab_any _ _ M v4 v5 v6 v7 v8 v9 v10 (h.fresh hb0) hM)
  have H0 := Lib.hid ((h.old.rows).fresh hb0)
  have HM := Lib.hid hM
  have HK := Lib.hid hk
  have HC := Lib.hid hc
  have HB0 := Lib.hid hb0
  have KB := Lib.hid kb
  have KC := Lib.hid kc
  clear h hM hk hc hb0 kb kc
  go_enter Tryz.func7, Tryz.ntmps7
  go_wp2_with fail
  refine HVO.out.mono ?_
  rintro e w1 ⟨rfl, hb1⟩
  obtain ⟨b, hb⟩ : ∃ b, b = w.heap.size := ⟨_, rfl⟩
  have kb1 := KB.out.below hb1 (by simp <;> omega)
  have kc1 := KC.out.below hb1 (by simp <;> omega)
  rw [← hb] at kb1 kc1 ⊢
  have e0 : w1.cell? ⟨b + 1, 0, none⟩ = some (.int .i64 c.pages) := kc1.cell 0
  have e1 : w1.cell? ⟨b + 1, 1, none⟩ = some (.int .i64 c.pageSize) := kc1.cell 1
  have e2 : w1.cell? ⟨b + 1, 2, none⟩ = some (.int .i64 c.batch) := kc1.cell 2
  have e3 : w1.cell? ⟨b + 1, 3, none⟩ = some (.int .i64 c.queue) := kc1.cell 3
  have HBE := Lib.hid hb
  have HR1 := Lib.hid (H0.out.fresh hb1)
  have HB1 := Lib.hid (HB0.out.trans (hb1.mono HB0.out.size))
  have hz1 : b + 1 < w1.heap.size := by have := hb1.size; simp at this; omega
  have KB1 := Lib.hid kb1
  have KC1 := Lib.hid kc1
  have h1 : win c.pages 1 64 = true := by have := HC.out.pages; simp [win]; omega
  have h2 : win c.pageSize 1 8 = true := by have := HC.out.pageSize; simp [win]; omega
  have h3 : win c.batch 1 16 = true := by have := HC.out.batch; simp [win]; omega
  have h4 : win c.queue 1 32 = true := by have := HC.out.queue; simp [win]; omega
  have HW1 := Lib.hid h1
  have HW2 := Lib.hid h2
  have HW3 := Lib.hid h3
  have HW4 := Lib.hid h4
  clear hb hb1 kb1 kc1 h1 h2 h3 h4
  go_wp2_with ((go_at_call 28; refine (swithin_any _ _ _ _).mono ?_; rintro e w' ⟨rfl, rfl⟩; first | rw [HW1.out] | rw [HW2.out] | rw [HW3.out] | rw [HW4.out]))
  have kq := Blk.new w1 64 #[.pointer (some ⟨b, 4, none⟩), .pointer (some ⟨b, 5, none⟩), .pointer (some ⟨b, 6, none⟩), .pointer (some ⟨b, 7, none⟩), .pointer (some ⟨b, 8, none⟩), .pointer (some ⟨b, 9, none⟩), .pointer (some ⟨b, 10, none⟩)]
  have kb2 := KB1.out.alloc (.cells #[.pointer (some ⟨b, 4, none⟩), .pointer (some ⟨b, 5, none⟩), .pointer (some ⟨b, 6, none⟩), .pointer (some ⟨b, 7, none⟩), .pointer (some ⟨b, 8, none⟩), .pointer (some ⟨b, 9, none⟩), .pointer (some ⟨b, 10, none⟩)] 64)
  have kc2 := KC1.out.alloc (.cells #[.pointer (some ⟨b, 4, none⟩), .pointer (some ⟨b, 5, none⟩), .pointer (some ⟨b, 6, none⟩), .pointer (some ⟨b, 7, none⟩), .pointer (some ⟨b, 8, none⟩), .pointer (some ⟨b, 9, none⟩), .pointer (some ⟨b, 10, none⟩)] 64)
  have hr2 := HR1.out.alloc (.cells #[.pointer (some ⟨b, 4, none⟩), .pointer (some ⟨b, 5, none⟩), .pointer (some ⟨b, 6, none⟩), .pointer (some ⟨b, 7, none⟩), .pointer (some ⟨b, 8, none⟩), .pointer (some ⟨b, 9, none⟩), .pointer (some ⟨b, 10, none⟩)] 64)
  have hb2 := HB1.out.alloc (by have := HBE.out; omega) (.cells #[.pointer (some ⟨b, 4, none⟩), .pointer (some ⟨b, 5, none⟩), .pointer (some ⟨b, 6, none⟩), .pointer (some ⟨b, 7, none⟩), .pointer (some ⟨b, 8, none⟩), .pointer (some ⟨b, 9, none⟩), .pointer (some ⟨b, 10, none⟩)] 64)
  have hz2 : (w1.alloc (.cells #[.pointer (some ⟨b, 4, none⟩), .pointer (some ⟨b, 5, none⟩), .pointer (some ⟨b, 6, none⟩), .pointer (some ⟨b, 7, none⟩), .pointer (some ⟨b, 8, none⟩), .pointer (some ⟨b, 9, none⟩), .pointer (some ⟨b, 10, none⟩)] 64)).heap.size = w1.heap.size + 1 := by simp
  generalize w1.alloc (.cells #[.pointer (some ⟨b, 4, none⟩), .pointer (some ⟨b, 5, none⟩), .pointer (some ⟨b, 6, none⟩), .pointer (some ⟨b, 7, none⟩), .pointer (some ⟨b, 8, none⟩), .pointer (some ⟨b, 9, none⟩), .pointer (some ⟨b, 10, none⟩)] 64) = W at *
  have hzW : w1.heap.size < W.heap.size := by omega
  have KQ := Lib.hid kq
  have KB2 := Lib.hid kb2
  have KC2 := Lib.hid kc2
  have HR2 := Lib.hid hr2
  have HB2 := Lib.hid hb2
  clear kq kb2 kc2 hr2 hb2 hz2 e0 e1 e2 e3
  obtain ⟨q, hq⟩ : ∃ q, q = w1.heap.size := ⟨_, rfl⟩
  rw [← hq] at KQ hzW hz1 ⊢
  clear hq
  go_loopw [9, 52] (fun _ i wr => ∃ (k : Nat) (vs : List Value), k ≤ 7 ∧ i = .int .i64 k ∧ vs.length = 7 ∧ Blk wr b 27 (mcell M vs) ∧ (∀ j (hj : j < M.ls.length), ∃ v, vs[j]? = some v ∧ (j < k → Slc wr (W.heap.size ≤ ·) v M.ls[j]) ∧ (k ≤ j → Slc wr (· < w.heap.size) v M.ls[j])) ∧ Keeps (· = b) W wr) (fun _ i _ => 7 - (intOf i).toNat)
  case atStart =>
    refine ⟨0, [v4, v5, v6, v7, v8, v9, v10], by omega, rfl, rfl, KB2.out, fun j hj => ?_, Keeps.refl _ _⟩
    obtain ⟨v, hv, hs⟩ := HR2.out.2 j hj
    exact ⟨v, hv, fun h => by omega, fun _ => hs⟩
  obtain ⟨k, vs, hk7, rfl, hvs, hblk, hrow, hkp⟩ := hrel
  have hwz := hkp.size
  by_cases hlt : k < 7
  · have hkl : k < M.ls.length := hlt
    obtain ⟨v, hv, -, hslc⟩ := hrow k hkl
    have hslc := hslc (Nat.le_refl _)
    have hsm := HM.out.small HK.out _ (List.getElem_mem hkl)
    have kq4 := hkp.blk KQ.out (by omega)
    have c1 : wr.cell? ⟨q, k, none⟩ = some (.pointer (some ⟨b, 4 + k, none⟩)) := by
      rw [kq4.cell k]
      match k, hlt with
      | 0, _ => rfl
      | 1, _ => rfl
      | 2, _ => rfl
      | 3, _ => rfl
      | 4, _ => rfl
      | 5, _ => rfl
      | 6, _ => rfl
    have c2 : wr.cell? ⟨b, 4 + k, none⟩ = some v := by rw [hblk.cell (4 + k), mcell_get, hv]
    have HCL := Lib.hid (clone_slc wr _ v M.ls[k] hslc (by omega))
    obtain ⟨Av, cv, rfl⟩ := hslc.len
    have HBLK := Lib.hid hblk
    have HROW := Lib.hid hrow
    have HKP := Lib.hid hkp
    have HVS := Lib.hid hvs
    clear hblk hrow hkp kq4 hv hslc hsm hvs
    go_wp2_with fail
    refine HCL.out.mono ?_
    rintro e w3 ⟨v', rfl, hown, hb3⟩
    have kb3 := HBLK.out.below hb3 HBLK.out.lt
    have d2 := (kb3.cell (4 + k)).trans ((HBLK.out.cell (4 + k)).symm.trans c2)
    have d3 := kb3.frozen (4 + k)
    obtain ⟨A', c', rfl, -, -⟩ := hown.shape
    have KB3 := Lib.hid kb3
    have HOWN := Lib.hid hown
    have HB3 := Lib.hid hb3
    have hzb3 := hb3.size
    clear kb3 hown hb3 c1 c2
    go_wp2_with fail
    go_roundw
    case rel =>
      have hbb := HBE.out
      refine ⟨k + 1, vs.set k (.slice A' (M.ls[k]'hkl).length c'), by omega, by go_num, by rw [List.length_set]; exact HVS.out, by rw [← mcell_set]; exact KB3.out.set_ _ _, fun j hj => ?_, (HKP.out.fresh HB3.out).setCell (fun _ => rfl) _⟩
      obtain ⟨v, hv, h1, h2⟩ := HROW.out j hj
      have kk : Keeps (· = b) w3 (w3.setCell ⟨b, 4 + k, none⟩ (.slice A' (M.ls[k]'hkl).length c')) := Keeps.setCell (p := ⟨b, 4 + k, none⟩) (Keeps.refl (· = b) w3) (fun _ => rfl) _
      by_cases hjk : j = k
      · subst hjk
        refine ⟨_, List.getElem?_set_self (by rw [HVS.out]; exact hlt), fun _ => (HOWN.out.slc.keeps kk (by omega)).more fun g _ hg => by omega, fun h => by omega⟩
      · refine ⟨v, by rw [List.getElem?_set_ne (by omega)]; exact hv, fun h => ((h1 (by omega)).fresh HB3.out).keeps kk (by intro i hi; omega), fun h => ((h2 (by omega)).fresh HB3.out).keeps kk (by intro i hi; omega)⟩
    case measure => simp [intOf]; omega
  · obtain rfl : k = 7 := by omega
    obtain ⟨x4, x5, x6, x7, x8, x9, x10, rfl⟩ : ∃ x4 x5 x6 x7 x8 x9 x10, vs = [x4, x5, x6, x7, x8, x9, x10] := by
      match vs, hvs with
      | [a, b, c, d, e, f, g], _ => exact ⟨_, _, _, _, _, _, _, rfl⟩
    have row : ∀ j (hj : j < M.ls.length) x, [x4, x5, x6, x7, x8, x9, x10][j]? = some x → Slc wr (W.heap.size ≤ ·) x M.ls[j] := fun j hj x hx => by
      obtain ⟨v, hv, h1, -⟩ := hrow j hj
      rw [hv] at hx
      injection hx with hx
      subst hx
      exact h1 hj
    have hm : MSl wr (W.heap.size ≤ ·) M x4 x5 x6 x7 x8 x9 x10 := ⟨row 0 (show _ < 7 by decide) _ rfl, row 1 (show _ < 7 by decide) _ rfl, row 2 (show _ < 7 by decide) _ rfl, row 3 (show _ < 7 by decide) _ rfl, row 4 (show _ < 7 by decide) _ rfl, row 5 (show _ < 7 by decide) _ rfl, row 6 (show _ < 7 by decide) _ rfl⟩
    have hblk' : Blk wr b 27 #[.int .i64 M.kind, .int .i64 M.vocab, .int .i64 M.width, .int .i64 M.top, x4, x5, x6, x7, x8, x9, x10] := hblk
    have kc3 := hkp.blk KC2.out (by omega)
    obtain ⟨c0, c1, c2, c3, c4, c5, c6, c7, c8, c9, c10⟩ := mcells hblk'
    have e0 : wr.cell? ⟨b + 1, 0, none⟩ = some (.int .i64 c.pages) := kc3.cell 0
    have e1 : wr.cell? ⟨b + 1, 1, none⟩ = some (.int .i64 c.pageSize) := kc3.cell 1
    have e2 : wr.cell? ⟨b + 1, 2, none⟩ = some (.int .i64 c.batch) := kc3.cell 2
    have e3 : wr.cell? ⟨b + 1, 3, none⟩ = some (.int .i64 c.queue) := kc3.cell 3
    have hbel : Below w.heap.size w wr := by
      have h1 := HB2.out
      have hbb := HBE.out
      exact ⟨hkp.os.trans h1.os, hkp.tape.trans h1.tape, hkp.output.trans h1.output, Nat.le_trans h1.size hkp.size, fun g hg => (hkp.block g (by have := h1.size; omega) (by omega)).trans (h1.block g hg)⟩
    have HM3 := Lib.hid hm
    have KB3 := Lib.hid hblk'
    have KC3 := Lib.hid kc3
    have HBEL := Lib.hid hbel
    have hbz : b + 1 < wr.heap.size := by omega
    have hbz' : b < wr.heap.size := by omega
    have hmm := @run_makeMap Tryz.prog
    obtain ⟨i0, hi, hy0, hy1, hy2⟩ := info_parts page_info
    have hp := HC.out.pages
    have hmk := fun W => run_make (P := Tryz.prog) W 68 106 i0 _ Tryz.underlying68 hi hy0 .i64 .i64 c.pages c.pages (by omega) (by omega) (by rw [hy2]; omega) (by omega)
    simp only [Int.toNat_natCast, hy1] at hmk
    rw [show (Value.agg #[Value.int IntKind.i64 0, Value.slice none 0 0, Value.int IntKind.i64 0, Value.int IntKind.i64 0]).cells = zeroCells from rfl, made_pages] at hmk
    clear hkp hblk hblk' hrow hvs row hm kc3 hbel hi hy0 hy1 hy2
    obtain ⟨zr, hzr⟩ : ∃ zr, zr = wr.heap.size := ⟨_, rfl⟩
    go_wp2_with fail
    go_region
    · have hz2 : ((wr.alloc (.map #[] 0)).alloc (.cells (pagesFrom (fun _ => .slice none 0 0) 0 (List.replicate c.pages zeroPage)).toArray 106)).heap.size = wr.heap.size + 1 + 1 := by simp
      have ks : Blk (((wr.alloc (.map #[] 0)).alloc (.cells (pagesFrom (fun _ => .slice none 0 0) 0 (List.replicate c.pages zeroPage)).toArray 106)).alloc (.cells #[.int .i64 M.kind, .int .i64 M.vocab, .int .i64 M.width, .int .i64 M.top, x4, x5, x6, x7, x8, x9, x10, .int .i64 c.pages, .int .i64 c.pageSize, .int .i64 c.batch, .int .i64 c.queue, .int .i64 M.vocab, .int .i64 0, .map (some (wr.heap.size)), .slice (some ⟨wr.heap.size + 1, 0, none⟩) c.pages c.pages, .slice none 0 0, .int .i64 0, .int .i64 0, .bool false] 70)).drew (wr.heap.size + 1 + 1) 70 #[.int .i64 M.kind, .int .i64 M.vocab, .int .i64 M.width, .int .i64 M.top, x4, x5, x6, x7, x8, x9, x10, .int .i64 c.pages, .int .i64 c.pageSize, .int .i64 c.batch, .int .i64 c.queue, .int .i64 M.vocab, .int .i64 0, .map (some (wr.heap.size)), .slice (some ⟨wr.heap.size + 1, 0, none⟩) c.pages c.pages, .slice none 0 0, .int .i64 0, .int .i64 0, .bool false] := by rw [← hz2]; exact (Blk.new ((wr.alloc (.map #[] 0)).alloc (.cells (pagesFrom (fun _ => .slice none 0 0) 0 (List.replicate c.pages zeroPage)).toArray 106)) 70 _).drew
      have hza : (wr.alloc (.map #[] 0)).heap.size = wr.heap.size + 1 := by simp
      have hbn : Below wr.heap.size wr ((((wr.alloc (.map #[] 0)).alloc (.cells (pagesFrom (fun _ => .slice none 0 0) 0 (List.replicate c.pages zeroPage)).toArray 106)).alloc (.cells #[.int .i64 M.kind, .int .i64 M.vocab, .int .i64 M.width, .int .i64 M.top, x4, x5, x6, x7, x8, x9, x10, .int .i64 c.pages, .int .i64 c.pageSize, .int .i64 c.batch, .int .i64 c.queue, .int .i64 M.vocab, .int .i64 0, .map (some (wr.heap.size)), .slice (some ⟨wr.heap.size + 1, 0, none⟩) c.pages c.pages, .slice none 0 0, .int .i64 0, .int .i64 0, .bool false] 70)).drew) := ((((Below.refl _ _).alloc (Nat.le_refl _) _).alloc (by simp) _).alloc (by simp <;> omega) _).drew
      have hbn1 : Below (wr.heap.size + 1) (wr.alloc (.map #[] 0)) ((((wr.alloc (.map #[] 0)).alloc (.cells (pagesFrom (fun _ => .slice none 0 0) 0 (List.replicate c.pages zeroPage)).toArray 106)).alloc (.cells #[.int .i64 M.kind, .int .i64 M.vocab, .int .i64 M.width, .int .i64 M.top, x4, x5, x6, x7, x8, x9, x10, .int .i64 c.pages, .int .i64 c.pageSize, .int .i64 c.batch, .int .i64 c.queue, .int .i64 M.vocab, .int .i64 0, .map (some (wr.heap.size)), .slice (some ⟨wr.heap.size + 1, 0, none⟩) c.pages c.pages, .slice none 0 0, .int .i64 0, .int .i64 0, .bool false] 70)).drew) := (((Below.refl _ _).alloc (by simp) _).alloc (by simp) _).drew
      have hbn2 : Below (wr.heap.size + 1 + 1) ((wr.alloc (.map #[] 0)).alloc (.cells (pagesFrom (fun _ => .slice none 0 0) 0 (List.replicate c.pages zeroPage)).toArray 106)) ((((wr.alloc (.map #[] 0)).alloc (.cells (pagesFrom (fun _ => .slice none 0 0) 0 (List.replicate c.pages zeroPage)).toArray 106)).alloc (.cells #[.int .i64 M.kind, .int .i64 M.vocab, .int .i64 M.width, .int .i64 M.top, x4, x5, x6, x7, x8, x9, x10, .int .i64 c.pages, .int .i64 c.pageSize, .int .i64 c.batch, .int .i64 c.queue, .int .i64 M.vocab, .int .i64 0, .map (some (wr.heap.size)), .slice (some ⟨wr.heap.size + 1, 0, none⟩) c.pages c.pages, .slice none 0 0, .int .i64 0, .int .i64 0, .bool false] 70)).drew) := ((Below.refl _ _).alloc (by simp) _).drew
      have km : MapIs ((((wr.alloc (.map #[] 0)).alloc (.cells (pagesFrom (fun _ => .slice none 0 0) 0 (List.replicate c.pages zeroPage)).toArray 106)).alloc (.cells #[.int .i64 M.kind, .int .i64 M.vocab, .int .i64 M.width, .int .i64 M.top, x4, x5, x6, x7, x8, x9, x10, .int .i64 c.pages, .int .i64 c.pageSize, .int .i64 c.batch, .int .i64 c.queue, .int .i64 M.vocab, .int .i64 0, .map (some (wr.heap.size)), .slice (some ⟨wr.heap.size + 1, 0, none⟩) c.pages c.pages, .slice none 0 0, .int .i64 0, .int .i64 0, .bool false] 70)).drew) wr.heap.size [] := (MapIs.new wr).keep (hbn1.block _ (by omega))
      have kp : Blk ((((wr.alloc (.map #[] 0)).alloc (.cells (pagesFrom (fun _ => .slice none 0 0) 0 (List.replicate c.pages zeroPage)).toArray 106)).alloc (.cells #[.int .i64 M.kind, .int .i64 M.vocab, .int .i64 M.width, .int .i64 M.top, x4, x5, x6, x7, x8, x9, x10, .int .i64 c.pages, .int .i64 c.pageSize, .int .i64 c.batch, .int .i64 c.queue, .int .i64 M.vocab, .int .i64 0, .map (some (wr.heap.size)), .slice (some ⟨wr.heap.size + 1, 0, none⟩) c.pages c.pages, .slice none 0 0, .int .i64 0, .int .i64 0, .bool false] 70)).drew) (wr.heap.size + 1) 106 (pagesFrom (fun _ => .slice none 0 0) 0 (List.replicate c.pages zeroPage)).toArray := by
        have k1 := Blk.new (wr.alloc (.map #[] 0)) 106 (pagesFrom (fun _ => .slice none 0 0) 0 (List.replicate c.pages zeroPage)).toArray
        rw [hza] at k1
        exact k1.below hbn2 (by omega)
      have hzn : ((((wr.alloc (.map #[] 0)).alloc (.cells (pagesFrom (fun _ => .slice none 0 0) 0 (List.replicate c.pages zeroPage)).toArray 106)).alloc (.cells #[.int .i64 M.kind, .int .i64 M.vocab, .int .i64 M.width, .int .i64 M.top, x4, x5, x6, x7, x8, x9, x10, .int .i64 c.pages, .int .i64 c.pageSize, .int .i64 c.batch, .int .i64 c.queue, .int .i64 M.vocab, .int .i64 0, .map (some (wr.heap.size)), .slice (some ⟨wr.heap.size + 1, 0, none⟩) c.pages c.pages, .slice none 0 0, .int .i64 0, .int .i64 0, .bool false] 70)).drew).heap.size = wr.heap.size + 3 := by simp
      clear hza hz2 hbn1 hbn2
      generalize (((wr.alloc (.map #[] 0)).alloc (.cells (pagesFrom (fun _ => .slice none 0 0) 0 (List.replicate c.pages zeroPage)).toArray 106)).alloc (.cells #[.int .i64 M.kind, .int .i64 M.vocab, .int .i64 M.width, .int .i64 M.top, x4, x5, x6, x7, x8, x9, x10, .int .i64 c.pages, .int .i64 c.pageSize, .int .i64 c.batch, .int .i64 c.queue, .int .i64 M.vocab, .int .i64 0, .map (some (wr.heap.size)), .slice (some ⟨wr.heap.size + 1, 0, none⟩) c.pages c.pages, .slice none 0 0, .int .i64 0, .int .i64 0, .bool false] 70)).drew = W5 at *
      obtain ⟨sb, hsb⟩ : ∃ sb, sb = wr.heap.size + 1 + 1 := ⟨_, rfl⟩
      rw [← hsb] at ks ⊢
      obtain ⟨mb, hmb⟩ : ∃ mb, mb = wr.heap.size := ⟨_, rfl⟩
      obtain ⟨pb, hpb⟩ : ∃ pb, pb = wr.heap.size + 1 := ⟨_, rfl⟩
      rw [← hmb] at km
      rw [← hpb] at kp
      rw [← hpb, ← hmb] at ks
      have HMB : Hid (zr ≤ mb ∧ mb < zr + 2 ∧ zr ≤ pb ∧ pb < zr + 2 ∧ mb ≠ pb) := Lib.hid (by omega)
      clear hmb hpb
      have hsz : sb = zr + 2 := by omega
      have hzW5 : W5.heap.size = zr + 3 := by omega
      have HZR := Lib.hid hzr
      have HSZ := Lib.hid hsz
      have HZ5 := Lib.hid hzW5
      clear hsb hzn hzr hsz hzW5
      have hm5 : MSl W5 (fun g => W.heap.size ≤ g ∧ g < wr.heap.size) M x4 x5 x6 x7 x8 x9 x10 := (HM3.out.more fun g hg h => ⟨h, hg⟩).fresh hbn
      have kb5 := KB3.out.below hbn KB3.out.lt
      have kc5 := KC3.out.below hbn KC3.out.lt
      clear c0 c1 c2 c3 c4 c5 c6 c7 c8 c9 c10 e0 e1 e2 e3
      obtain ⟨c0, c1, c2, c3, c4, c5, c6, c7, c8, c9, c10⟩ := mcells kb5
      have e0 : W5.cell? ⟨b + 1, 0, none⟩ = some (.int .i64 c.pages) := kc5.cell 0
      have e1 : W5.cell? ⟨b + 1, 1, none⟩ = some (.int .i64 c.pageSize) := kc5.cell 1
      have e2 : W5.cell? ⟨b + 1, 2, none⟩ = some (.int .i64 c.batch) := kc5.cell 2
      have e3 : W5.cell? ⟨b + 1, 3, none⟩ = some (.int .i64 c.queue) := kc5.cell 3
      have HHD := Lib.hid (head_any W5 _ M x4 x5 x6 x7 x8 x9 x10 hm5 HM.out HK.out c HC.out)
      have HM5 := Lib.hid hm5
      have HBN := Lib.hid (HBEL.out.trans (hbn.mono HBEL.out.size))
      have KS := Lib.hid ks
      have KM := Lib.hid km
      have KP := Lib.hid kp
      clear hm5 hbn ks km kp kb5 kc5 hmm hmk
      go_wp2_with fail
      refine HHD.out.mono ?_
      rintro e w6 ⟨vl, rfl, hl, hb6⟩
      obtain ⟨Al, cl, rfl, -, -⟩ := hl.shape
      have ks6 := KS.out.below hb6 KS.out.lt
      have d19 : w6.cell? ⟨sb, 19, none⟩ = some (.slice none 0 0) := ks6.cell 19
      have d21 : w6.cell? ⟨sb, 21, none⟩ = some (.int .i64 0) := ks6.cell 21
      have f19 := ks6.frozen 19
      have f21 := ks6.frozen 21
      have HL := Lib.hid hl
      have KS6 := Lib.hid ks6
      have HB6 := Lib.hid hb6
      clear hl ks6 hb6 c0 c1 c2 c3 c4 c5 c6 c7 c8 c9 c10 e0 e1 e2 e3
      go_wp2_with fail
      go_ret2
      have kk : Keeps (· = sb) w6 ((w6.setCell ⟨sb, 19, none⟩ (.slice Al 28 cl)).setCell ⟨sb, 21, none⟩ (.int .i64 28)) := Keeps.setCell (p := ⟨sb, 21, none⟩) (Keeps.setCell (p := ⟨sb, 19, none⟩) (Keeps.refl (· = sb) w6) (fun _ => rfl) _) (fun _ => rfl) _
      obtain ⟨m1, m2, m3, m4, m5⟩ := HMB.out
      have hz6 := HB6.out.size
      have hwz' := HB2.out.size
      have hzr := HZR.out
      have hsz := HSZ.out
      have hzW5 := HZ5.out
      have hbb := HBE.out
      obtain ⟨own, P, hsa, hrep, hold⟩ := rep_init ((w6.setCell ⟨sb, 19, none⟩ (.slice Al 28 cl)).setCell ⟨sb, 21, none⟩ (.int .i64 28)) M c sb mb pb W.heap.size wr.heap.size W5.heap.size x4 x5 x6 x7 x8 x9 x10 _
        ((KS6.out.set_ 19 _).set_ 21 _) (KM.out.keep ((kk.block _ (by omega) (by omega)).trans (HB6.out.block _ (by omega)))) (kk.blk (KP.out.below HB6.out (by omega)) (by omega))
        (HL.out.keeps kk (by intro i hi; omega)) (headF_length M c) ((HM5.out.fresh HB6.out).keeps kk (by intro i hi; omega)) (by omega) (by omega) (by omega) (by omega) (by omega) (by omega) hwz (by have := kk.size; omega)
      refine ⟨own, P, by subst hsa; rfl, hrep, fun g hg => hold g (by omega), ?_⟩
      have h6 := HBN.out.trans (HB6.out.mono HBN.out.size)
      exact (h6.setCell (p := ⟨sb, 19, none⟩) (by show w.heap.size ≤ sb; omega) _).setCell (p := ⟨sb, 21, none⟩) (by show w.heap.size ≤ sb; omega) _
    · have hz2 : ((wr.alloc (.cells (pagesFrom (fun _ => .slice none 0 0) 0 (List.replicate c.pages zeroPage)).toArray 106)).alloc (.map #[] 0)).heap.size = wr.heap.size + 1 + 1 := by simp
      have ks : Blk (((wr.alloc (.cells (pagesFrom (fun _ => .slice none 0 0) 0 (List.replicate c.pages zeroPage)).toArray 106)).alloc (.map #[] 0)).alloc (.cells #[.int .i64 M.kind, .int .i64 M.vocab, .int .i64 M.width, .int .i64 M.top, x4, x5, x6, x7, x8, x9, x10, .int .i64 c.pages, .int .i64 c.pageSize, .int .i64 c.batch, .int .i64 c.queue, .int .i64 M.vocab, .int .i64 0, .map (some (wr.heap.size + 1)), .slice (some ⟨wr.heap.size, 0, none⟩) c.pages c.pages, .slice none 0 0, .int .i64 0, .int .i64 0, .bool false] 70)).drew (wr.heap.size + 1 + 1) 70 #[.int .i64 M.kind, .int .i64 M.vocab, .int .i64 M.width, .int .i64 M.top, x4, x5, x6, x7, x8, x9, x10, .int .i64 c.pages, .int .i64 c.pageSize, .int .i64 c.batch, .int .i64 c.queue, .int .i64 M.vocab, .int .i64 0, .map (some (wr.heap.size + 1)), .slice (some ⟨wr.heap.size, 0, none⟩) c.pages c.pages, .slice none 0 0, .int .i64 0, .int .i64 0, .bool false] := by rw [← hz2]; exact (Blk.new ((wr.alloc (.cells (pagesFrom (fun _ => .slice none 0 0) 0 (List.replicate c.pages zeroPage)).toArray 106)).alloc (.map #[] 0)) 70 _).drew
      have hza : (wr.alloc (.cells (pagesFrom (fun _ => .slice none 0 0) 0 (List.replicate c.pages zeroPage)).toArray 106)).heap.size = wr.heap.size + 1 := by simp
      have hbn : Below wr.heap.size wr ((((wr.alloc (.cells (pagesFrom (fun _ => .slice none 0 0) 0 (List.replicate c.pages zeroPage)).toArray 106)).alloc (.map #[] 0)).alloc (.cells #[.int .i64 M.kind, .int .i64 M.vocab, .int .i64 M.width, .int .i64 M.top, x4, x5, x6, x7, x8, x9, x10, .int .i64 c.pages, .int .i64 c.pageSize, .int .i64 c.batch, .int .i64 c.queue, .int .i64 M.vocab, .int .i64 0, .map (some (wr.heap.size + 1)), .slice (some ⟨wr.heap.size, 0, none⟩) c.pages c.pages, .slice none 0 0, .int .i64 0, .int .i64 0, .bool false] 70)).drew) := ((((Below.refl _ _).alloc (Nat.le_refl _) _).alloc (by simp) _).alloc (by simp <;> omega) _).drew
      have hbn1 : Below (wr.heap.size + 1) (wr.alloc (.cells (pagesFrom (fun _ => .slice none 0 0) 0 (List.replicate c.pages zeroPage)).toArray 106)) ((((wr.alloc (.cells (pagesFrom (fun _ => .slice none 0 0) 0 (List.replicate c.pages zeroPage)).toArray 106)).alloc (.map #[] 0)).alloc (.cells #[.int .i64 M.kind, .int .i64 M.vocab, .int .i64 M.width, .int .i64 M.top, x4, x5, x6, x7, x8, x9, x10, .int .i64 c.pages, .int .i64 c.pageSize, .int .i64 c.batch, .int .i64 c.queue, .int .i64 M.vocab, .int .i64 0, .map (some (wr.heap.size + 1)), .slice (some ⟨wr.heap.size, 0, none⟩) c.pages c.pages, .slice none 0 0, .int .i64 0, .int .i64 0, .bool false] 70)).drew) := (((Below.refl _ _).alloc (by simp) _).alloc (by simp) _).drew
      have hbn2 : Below (wr.heap.size + 1 + 1) ((wr.alloc (.cells (pagesFrom (fun _ => .slice none 0 0) 0 (List.replicate c.pages zeroPage)).toArray 106)).alloc (.map #[] 0)) ((((wr.alloc (.cells (pagesFrom (fun _ => .slice none 0 0) 0 (List.replicate c.pages zeroPage)).toArray 106)).alloc (.map #[] 0)).alloc (.cells #[.int .i64 M.kind, .int .i64 M.vocab, .int .i64 M.width, .int .i64 M.top, x4, x5, x6, x7, x8, x9, x10, .int .i64 c.pages, .int .i64 c.pageSize, .int .i64 c.batch, .int .i64 c.queue, .int .i64 M.vocab, .int .i64 0, .map (some (wr.heap.size + 1)), .slice (some ⟨wr.heap.size, 0, none⟩) c.pages c.pages, .slice none 0 0, .int .i64 0, .int .i64 0, .bool false] 70)).drew) := ((Below.refl _ _).alloc (by simp) _).drew
      have km : MapIs ((((wr.alloc (.cells (pagesFrom (fun _ => .slice none 0 0) 0 (List.replicate c.pages zeroPage)).toArray 106)).alloc (.map #[] 0)).alloc (.cells #[.int .i64 M.kind, .int .i64 M.vocab, .int .i64 M.width, .int .i64 M.top, x4, x5, x6, x7, x8, x9, x10, .int .i64 c.pages, .int .i64 c.pageSize, .int .i64 c.batch, .int .i64 c.queue, .int .i64 M.vocab, .int .i64 0, .map (some (wr.heap.size + 1)), .slice (some ⟨wr.heap.size, 0, none⟩) c.pages c.pages, .slice none 0 0, .int .i64 0, .int .i64 0, .bool false] 70)).drew) (wr.heap.size + 1) [] := by
        have k1 := MapIs.new (wr.alloc (.cells (pagesFrom (fun _ => .slice none 0 0) 0 (List.replicate c.pages zeroPage)).toArray 106))
        rw [hza] at k1
        exact k1.keep (hbn2.block _ (by omega))
      have kp : Blk ((((wr.alloc (.cells (pagesFrom (fun _ => .slice none 0 0) 0 (List.replicate c.pages zeroPage)).toArray 106)).alloc (.map #[] 0)).alloc (.cells #[.int .i64 M.kind, .int .i64 M.vocab, .int .i64 M.width, .int .i64 M.top, x4, x5, x6, x7, x8, x9, x10, .int .i64 c.pages, .int .i64 c.pageSize, .int .i64 c.batch, .int .i64 c.queue, .int .i64 M.vocab, .int .i64 0, .map (some (wr.heap.size + 1)), .slice (some ⟨wr.heap.size, 0, none⟩) c.pages c.pages, .slice none 0 0, .int .i64 0, .int .i64 0, .bool false] 70)).drew) wr.heap.size 106 (pagesFrom (fun _ => .slice none 0 0) 0 (List.replicate c.pages zeroPage)).toArray := (Blk.new wr 106 _).below hbn1 (by omega)
      have hzn : ((((wr.alloc (.cells (pagesFrom (fun _ => .slice none 0 0) 0 (List.replicate c.pages zeroPage)).toArray 106)).alloc (.map #[] 0)).alloc (.cells #[.int .i64 M.kind, .int .i64 M.vocab, .int .i64 M.width, .int .i64 M.top, x4, x5, x6, x7, x8, x9, x10, .int .i64 c.pages, .int .i64 c.pageSize, .int .i64 c.batch, .int .i64 c.queue, .int .i64 M.vocab, .int .i64 0, .map (some (wr.heap.size + 1)), .slice (some ⟨wr.heap.size, 0, none⟩) c.pages c.pages, .slice none 0 0, .int .i64 0, .int .i64 0, .bool false] 70)).drew).heap.size = wr.heap.size + 3 := by simp
      clear hza hz2 hbn1 hbn2
      generalize (((wr.alloc (.cells (pagesFrom (fun _ => .slice none 0 0) 0 (List.replicate c.pages zeroPage)).toArray 106)).alloc (.map #[] 0)).alloc (.cells #[.int .i64 M.kind, .int .i64 M.vocab, .int .i64 M.width, .int .i64 M.top, x4, x5, x6, x7, x8, x9, x10, .int .i64 c.pages, .int .i64 c.pageSize, .int .i64 c.batch, .int .i64 c.queue, .int .i64 M.vocab, .int .i64 0, .map (some (wr.heap.size + 1)), .slice (some ⟨wr.heap.size, 0, none⟩) c.pages c.pages, .slice none 0 0, .int .i64 0, .int .i64 0, .bool false] 70)).drew = W5 at *
      obtain ⟨sb, hsb⟩ : ∃ sb, sb = wr.heap.size + 1 + 1 := ⟨_, rfl⟩
      rw [← hsb] at ks ⊢
      obtain ⟨mb, hmb⟩ : ∃ mb, mb = wr.heap.size + 1 := ⟨_, rfl⟩
      obtain ⟨pb, hpb⟩ : ∃ pb, pb = wr.heap.size := ⟨_, rfl⟩
      rw [← hmb] at km
      rw [← hpb] at kp
      rw [← hmb, ← hpb] at ks
      have HMB : Hid (zr ≤ mb ∧ mb < zr + 2 ∧ zr ≤ pb ∧ pb < zr + 2 ∧ mb ≠ pb) := Lib.hid (by omega)
      clear hmb hpb
      have hsz : sb = zr + 2 := by omega
      have hzW5 : W5.heap.size = zr + 3 := by omega
      have HZR := Lib.hid hzr
      have HSZ := Lib.hid hsz
      have HZ5 := Lib.hid hzW5
      clear hsb hzn hzr hsz hzW5
      have hm5 : MSl W5 (fun g => W.heap.size ≤ g ∧ g < wr.heap.size) M x4 x5 x6 x7 x8 x9 x10 := (HM3.out.more fun g hg h => ⟨h, hg⟩).fresh hbn
      have kb5 := KB3.out.below hbn KB3.out.lt
      have kc5 := KC3.out.below hbn KC3.out.lt
      clear c0 c1 c2 c3 c4 c5 c6 c7 c8 c9 c10 e0 e1 e2 e3
      obtain ⟨c0, c1, c2, c3, c4, c5, c6, c7, c8, c9, c10⟩ := mcells kb5
      have e0 : W5.cell? ⟨b + 1, 0, none⟩ = some (.int .i64 c.pages) := kc5.cell 0
      have e1 : W5.cell? ⟨b + 1, 1, none⟩ = some (.int .i64 c.pageSize) := kc5.cell 1
      have e2 : W5.cell? ⟨b + 1, 2, none⟩ = some (.int .i64 c.batch) := kc5.cell 2
      have e3 : W5.cell? ⟨b + 1, 3, none⟩ = some (.int .i64 c.queue) := kc5.cell 3
      have HHD := Lib.hid (head_any W5 _ M x4 x5 x6 x7 x8 x9 x10 hm5 HM.out HK.out c HC.out)
      have HM5 := Lib.hid hm5
      have HBN := Lib.hid (HBEL.out.trans (hbn.mono HBEL.out.size))
      have KS := Lib.hid ks
      have KM := Lib.hid km
      have KP := Lib.hid kp
      clear hm5 hbn ks km kp kb5 kc5 hmm hmk
      go_wp2_with fail
      refine HHD.out.mono ?_
      rintro e w6 ⟨vl, rfl, hl, hb6⟩
      obtain ⟨Al, cl, rfl, -, -⟩ := hl.shape
      have ks6 := KS.out.below hb6 KS.out.lt
      have d19 : w6.cell? ⟨sb, 19, none⟩ = some (.slice none 0 0) := ks6.cell 19
      have d21 : w6.cell? ⟨sb, 21, none⟩ = some (.int .i64 0) := ks6.cell 21
      have f19 := ks6.frozen 19
      have f21 := ks6.frozen 21
      have HL := Lib.hid hl
      have KS6 := Lib.hid ks6
      have HB6 := Lib.hid hb6
      clear hl ks6 hb6 c0 c1 c2 c3 c4 c5 c6 c7 c8 c9 c10 e0 e1 e2 e3
      go_wp2_with fail
      go_ret2
      have kk : Keeps (· = sb) w6 ((w6.setCell ⟨sb, 19, none⟩ (.slice Al 28 cl)).setCell ⟨sb, 21, none⟩ (.int .i64 28)) := Keeps.setCell (p := ⟨sb, 21, none⟩) (Keeps.setCell (p := ⟨sb, 19, none⟩) (Keeps.refl (· = sb) w6) (fun _ => rfl) _) (fun _ => rfl) _
      obtain ⟨m1, m2, m3, m4, m5⟩ := HMB.out
      have hz6 := HB6.out.size
      have hwz' := HB2.out.size
      have hzr := HZR.out
      have hsz := HSZ.out
      have hzW5 := HZ5.out
      have hbb := HBE.out
      obtain ⟨own, P, hsa, hrep, hold⟩ := rep_init ((w6.setCell ⟨sb, 19, none⟩ (.slice Al 28 cl)).setCell ⟨sb, 21, none⟩ (.int .i64 28)) M c sb mb pb W.heap.size wr.heap.size W5.heap.size x4 x5 x6 x7 x8 x9 x10 _
        ((KS6.out.set_ 19 _).set_ 21 _) (KM.out.keep ((kk.block _ (by omega) (by omega)).trans (HB6.out.block _ (by omega)))) (kk.blk (KP.out.below HB6.out (by omega)) (by omega))
        (HL.out.keeps kk (by intro i hi; omega)) (headF_length M c) ((HM5.out.fresh HB6.out).keeps kk (by intro i hi; omega)) (by omega) (by omega) (by omega) (by omega) (by omega) (by omega) hwz (by have := kk.size; omega)
      refine ⟨own, P, by subst hsa; rfl, hrep, fun g hg => hold g (by omega), ?_⟩
      have h6 := HBN.out.trans (HB6.out.mono HBN.out.size)
      exact (h6.setCell (p := ⟨sb, 19, none⟩) (by show w.heap.size ≤ sb; omega) _).setCell (p := ⟨sb, 21, none⟩) (by show w.heap.size ≤ sb; omega) _
end Go.Proofs.YtedkfehdfmimoaaGreat

namespace Go.Proofs.YtedkfehdfmimoaaGreat
open Go.RowKit

theorem keeps11 (w : World) (g : Nat) (a0 a1 a2 a3 a4 a5 a6 a7 a8 a9 a10 : Value) : Keeps (· = g) w (((((((((((w.setCell ⟨g, 0, none⟩ a0).setCell ⟨g, 1, none⟩ a1).setCell ⟨g, 2, none⟩ a2).setCell ⟨g, 3, none⟩ a3).setCell ⟨g, 4, none⟩ a4).setCell ⟨g, 5, none⟩ a5).setCell ⟨g, 6, none⟩ a6).setCell ⟨g, 7, none⟩ a7).setCell ⟨g, 8, none⟩ a8).setCell ⟨g, 9, none⟩ a9).setCell ⟨g, 10, none⟩ a10) :=
  Keeps.setCell (p := ⟨g, 10, none⟩) (Keeps.setCell (p := ⟨g, 9, none⟩) (Keeps.setCell (p := ⟨g, 8, none⟩) (Keeps.setCell (p := ⟨g, 7, none⟩) (Keeps.setCell (p := ⟨g, 6, none⟩) (Keeps.setCell (p := ⟨g, 5, none⟩) (Keeps.setCell (p := ⟨g, 4, none⟩) (Keeps.setCell (p := ⟨g, 3, none⟩) (Keeps.setCell (p := ⟨g, 2, none⟩) (Keeps.setCell (p := ⟨g, 1, none⟩) (Keeps.setCell (p := ⟨g, 0, none⟩) (Keeps.refl (· = g) w) (fun _ => rfl) _) (fun _ => rfl) _) (fun _ => rfl) _) (fun _ => rfl) _) (fun _ => rfl) _) (fun _ => rfl) _) (fun _ => rfl) _) (fun _ => rfl) _) (fun _ => rfl) _) (fun _ => rfl) _) (fun _ => rfl) _
theorem blk11 (w : World) (g : Nat) (t : TypeId) (b0 b1 b2 b3 b4 b5 b6 b7 b8 b9 b10 a0 a1 a2 a3 a4 a5 a6 a7 a8 a9 a10 : Value) (h : Blk w g t #[b0, b1, b2, b3, b4, b5, b6, b7, b8, b9, b10]) :
    Blk (((((((((((w.setCell ⟨g, 0, none⟩ a0).setCell ⟨g, 1, none⟩ a1).setCell ⟨g, 2, none⟩ a2).setCell ⟨g, 3, none⟩ a3).setCell ⟨g, 4, none⟩ a4).setCell ⟨g, 5, none⟩ a5).setCell ⟨g, 6, none⟩ a6).setCell ⟨g, 7, none⟩ a7).setCell ⟨g, 8, none⟩ a8).setCell ⟨g, 9, none⟩ a9).setCell ⟨g, 10, none⟩ a10) g t #[a0, a1, a2, a3, a4, a5, a6, a7, a8, a9, a10] := by
  have h : Blk (w.setCell ⟨g, 0, none⟩ a0) g t #[a0, b1, b2, b3, b4, b5, b6, b7, b8, b9, b10] := h.set_ 0 a0
  have h : Blk ((w.setCell ⟨g, 0, none⟩ a0).setCell ⟨g, 1, none⟩ a1) g t #[a0, a1, b2, b3, b4, b5, b6, b7, b8, b9, b10] := h.set_ 1 a1
  have h : Blk (((w.setCell ⟨g, 0, none⟩ a0).setCell ⟨g, 1, none⟩ a1).setCell ⟨g, 2, none⟩ a2) g t #[a0, a1, a2, b3, b4, b5, b6, b7, b8, b9, b10] := h.set_ 2 a2
  have h : Blk ((((w.setCell ⟨g, 0, none⟩ a0).setCell ⟨g, 1, none⟩ a1).setCell ⟨g, 2, none⟩ a2).setCell ⟨g, 3, none⟩ a3) g t #[a0, a1, a2, a3, b4, b5, b6, b7, b8, b9, b10] := h.set_ 3 a3
  have h : Blk (((((w.setCell ⟨g, 0, none⟩ a0).setCell ⟨g, 1, none⟩ a1).setCell ⟨g, 2, none⟩ a2).setCell ⟨g, 3, none⟩ a3).setCell ⟨g, 4, none⟩ a4) g t #[a0, a1, a2, a3, a4, b5, b6, b7, b8, b9, b10] := h.set_ 4 a4
  have h : Blk ((((((w.setCell ⟨g, 0, none⟩ a0).setCell ⟨g, 1, none⟩ a1).setCell ⟨g, 2, none⟩ a2).setCell ⟨g, 3, none⟩ a3).setCell ⟨g, 4, none⟩ a4).setCell ⟨g, 5, none⟩ a5) g t #[a0, a1, a2, a3, a4, a5, b6, b7, b8, b9, b10] := h.set_ 5 a5
  have h : Blk (((((((w.setCell ⟨g, 0, none⟩ a0).setCell ⟨g, 1, none⟩ a1).setCell ⟨g, 2, none⟩ a2).setCell ⟨g, 3, none⟩ a3).setCell ⟨g, 4, none⟩ a4).setCell ⟨g, 5, none⟩ a5).setCell ⟨g, 6, none⟩ a6) g t #[a0, a1, a2, a3, a4, a5, a6, b7, b8, b9, b10] := h.set_ 6 a6
  have h : Blk ((((((((w.setCell ⟨g, 0, none⟩ a0).setCell ⟨g, 1, none⟩ a1).setCell ⟨g, 2, none⟩ a2).setCell ⟨g, 3, none⟩ a3).setCell ⟨g, 4, none⟩ a4).setCell ⟨g, 5, none⟩ a5).setCell ⟨g, 6, none⟩ a6).setCell ⟨g, 7, none⟩ a7) g t #[a0, a1, a2, a3, a4, a5, a6, a7, b8, b9, b10] := h.set_ 7 a7
  have h : Blk (((((((((w.setCell ⟨g, 0, none⟩ a0).setCell ⟨g, 1, none⟩ a1).setCell ⟨g, 2, none⟩ a2).setCell ⟨g, 3, none⟩ a3).setCell ⟨g, 4, none⟩ a4).setCell ⟨g, 5, none⟩ a5).setCell ⟨g, 6, none⟩ a6).setCell ⟨g, 7, none⟩ a7).setCell ⟨g, 8, none⟩ a8) g t #[a0, a1, a2, a3, a4, a5, a6, a7, a8, b9, b10] := h.set_ 8 a8
  have h : Blk ((((((((((w.setCell ⟨g, 0, none⟩ a0).setCell ⟨g, 1, none⟩ a1).setCell ⟨g, 2, none⟩ a2).setCell ⟨g, 3, none⟩ a3).setCell ⟨g, 4, none⟩ a4).setCell ⟨g, 5, none⟩ a5).setCell ⟨g, 6, none⟩ a6).setCell ⟨g, 7, none⟩ a7).setCell ⟨g, 8, none⟩ a8).setCell ⟨g, 9, none⟩ a9) g t #[a0, a1, a2, a3, a4, a5, a6, a7, a8, a9, b10] := h.set_ 9 a9
  have h : Blk (((((((((((w.setCell ⟨g, 0, none⟩ a0).setCell ⟨g, 1, none⟩ a1).setCell ⟨g, 2, none⟩ a2).setCell ⟨g, 3, none⟩ a3).setCell ⟨g, 4, none⟩ a4).setCell ⟨g, 5, none⟩ a5).setCell ⟨g, 6, none⟩ a6).setCell ⟨g, 7, none⟩ a7).setCell ⟨g, 8, none⟩ a8).setCell ⟨g, 9, none⟩ a9).setCell ⟨g, 10, none⟩ a10) g t #[a0, a1, a2, a3, a4, a5, a6, a7, a8, a9, a10] := h.set_ 10 a10
  exact h

set_option maxRecDepth 100000 in
set_option maxHeartbeats 2000000 in
theorem demo_aux (M : Model) (hmk : ∀ w : World, Calls Tryz.prog 25 #[.int .i64 1, .int .i64 1, .int .i64 8, .int .i64 4] w fun e w' =>
    ∃ v4 v5 v6 v7 v8 v9 v10, e = .returned (.tuple #[.agg #[.int .i64 1, .int .i64 8, .int .i64 4, .int .i64 8, v4, v5, v6, v7, v8, v9, v10], .int .i64 0]) ∧ MSl w' (fun g => w.heap.size ≤ g) M v4 v5 v6 v7 v8 v9 v10 ∧ Below w.heap.size w w') (w : World) : Calls Tryz.prog 5 #[] w fun e w' =>
    ∃ v4 v5 v6 v7 v8 v9 v10, e = .returned (.agg #[.int .i64 1, .int .i64 8, .int .i64 4, .int .i64 8, v4, v5, v6, v7, v8, v9, v10]) ∧ MSl w' (fun g => w.heap.size ≤ g) M v4 v5 v6 v7 v8 v9 v10 ∧ Below w.heap.size w w' := by
  go_enter Tryz.func5, Tryz.ntmps5
  go_wp2_with fail
  have k0 := Blk.new w 27 #[.int .i64 0, .int .i64 0, .int .i64 0, .int .i64 0, .slice none 0 0, .slice none 0 0, .slice none 0 0, .slice none 0 0, .slice none 0 0, .slice none 0 0, .slice none 0 0]
  have hb0 := (Below.refl w.heap.size w).alloc (Nat.le_refl _) (.cells #[.int .i64 0, .int .i64 0, .int .i64 0, .int .i64 0, .slice none 0 0, .slice none 0 0, .slice none 0 0, .slice none 0 0, .slice none 0 0, .slice none 0 0, .slice none 0 0] 27)
  have hz0 : (w.alloc (.cells #[.int .i64 0, .int .i64 0, .int .i64 0, .int .i64 0, .slice none 0 0, .slice none 0 0, .slice none 0 0, .slice none 0 0, .slice none 0 0, .slice none 0 0, .slice none 0 0] 27)).heap.size = w.heap.size + 1 := by simp
  have HMK := Lib.hid (hmk (w.alloc (.cells #[.int .i64 0, .int .i64 0, .int .i64 0, .int .i64 0, .slice none 0 0, .slice none 0 0, .slice none 0 0, .slice none 0 0, .slice none 0 0, .slice none 0 0, .slice none 0 0] 27)))
  clear hmk
  refine HMK.out.mono ?_
  rintro e w1 ⟨v4, v5, v6, v7, v8, v9, v10, rfl, hm, hb1⟩
  have k01 := k0.below hb1 (by omega)
  have hb01 := hb0.trans (hb1.mono (by omega))
  have hz1 : w.heap.size < w1.heap.size := by have := hb1.size; omega
  have hm1 : MSl w1 (fun g => w.heap.size < g ∧ g < w1.heap.size) M v4 v5 v6 v7 v8 v9 v10 := hm.more fun g hg h => ⟨by omega, hg⟩
  obtain ⟨b, hb⟩ : ∃ b, b = w.heap.size := ⟨_, rfl⟩
  rw [← hb] at k01 hz1 hm1 ⊢
  have kz := Blk.new w1 27 #[.int .i64 0, .int .i64 0, .int .i64 0, .int .i64 0, .slice none 0 0, .slice none 0 0, .slice none 0 0, .slice none 0 0, .slice none 0 0, .slice none 0 0, .slice none 0 0]
  have c0 : w1.cell? ⟨b, 0, none⟩ = some (.int .i64 0) := k01.cell 0
  have c1 : w1.cell? ⟨b, 1, none⟩ = some (.int .i64 0) := k01.cell 1
  have c2 : w1.cell? ⟨b, 2, none⟩ = some (.int .i64 0) := k01.cell 2
  have c3 : w1.cell? ⟨b, 3, none⟩ = some (.int .i64 0) := k01.cell 3
  have c4 : w1.cell? ⟨b, 4, none⟩ = some (.slice none 0 0) := k01.cell 4
  have c5 : w1.cell? ⟨b, 5, none⟩ = some (.slice none 0 0) := k01.cell 5
  have c6 : w1.cell? ⟨b, 6, none⟩ = some (.slice none 0 0) := k01.cell 6
  have c7 : w1.cell? ⟨b, 7, none⟩ = some (.slice none 0 0) := k01.cell 7
  have c8 : w1.cell? ⟨b, 8, none⟩ = some (.slice none 0 0) := k01.cell 8
  have c9 : w1.cell? ⟨b, 9, none⟩ = some (.slice none 0 0) := k01.cell 9
  have c10 : w1.cell? ⟨b, 10, none⟩ = some (.slice none 0 0) := k01.cell 10
  have fz := k01.frozen
  have HB := Lib.hid hb
  obtain ⟨A4, e4, rfl⟩ := hm1.cuts.len
  obtain ⟨A5, e5, rfl⟩ := hm1.embed.len
  obtain ⟨A6, e6, rfl⟩ := hm1.place.len
  obtain ⟨A7, e7, rfl⟩ := hm1.mix.len
  obtain ⟨A8, e8, rfl⟩ := hm1.out.len
  obtain ⟨A9, e9, rfl⟩ := hm1.soft.len
  obtain ⟨A10, e10, rfl⟩ := hm1.odds.len
  have HM := Lib.hid hm1
  have K01 := Lib.hid k01
  have HB01 := Lib.hid hb01
  clear k0 hb0 hz0 hm hb1 hm1 k01 hb01 hb
  have f0 := fz 0
  have f1 := fz 1
  have f2 := fz 2
  have f3 := fz 3
  have f4 := fz 4
  have f5 := fz 5
  have f6 := fz 6
  have f7 := fz 7
  have f8 := fz 8
  have f9 := fz 9
  have f10 := fz 10
  clear fz
  go_upto_region 2 with (fail)
  have kq := Blk.new w1 27 #[.int .i64 1, .int .i64 8, .int .i64 4, .int .i64 8, .slice A4 M.cuts.length e4, .slice A5 M.embed.length e5, .slice A6 M.place.length e6, .slice A7 M.mix.length e7, .slice A8 M.out.length e8, .slice A9 M.soft.length e9, .slice A10 M.odds.length e10]
  have k02 := K01.out.alloc (.cells #[.int .i64 1, .int .i64 8, .int .i64 4, .int .i64 8, .slice A4 M.cuts.length e4, .slice A5 M.embed.length e5, .slice A6 M.place.length e6, .slice A7 M.mix.length e7, .slice A8 M.out.length e8, .slice A9 M.soft.length e9, .slice A10 M.odds.length e10] 27)
  have hm2 := HM.out.alloc (.cells #[.int .i64 1, .int .i64 8, .int .i64 4, .int .i64 8, .slice A4 M.cuts.length e4, .slice A5 M.embed.length e5, .slice A6 M.place.length e6, .slice A7 M.mix.length e7, .slice A8 M.out.length e8, .slice A9 M.soft.length e9, .slice A10 M.odds.length e10] 27)
  have hb2 := HB01.out.alloc (by have := HB.out; omega) (.cells #[.int .i64 1, .int .i64 8, .int .i64 4, .int .i64 8, .slice A4 M.cuts.length e4, .slice A5 M.embed.length e5, .slice A6 M.place.length e6, .slice A7 M.mix.length e7, .slice A8 M.out.length e8, .slice A9 M.soft.length e9, .slice A10 M.odds.length e10] 27)
  generalize w1.alloc (.cells #[.int .i64 1, .int .i64 8, .int .i64 4, .int .i64 8, .slice A4 M.cuts.length e4, .slice A5 M.embed.length e5, .slice A6 M.place.length e6, .slice A7 M.mix.length e7, .slice A8 M.out.length e8, .slice A9 M.soft.length e9, .slice A10 M.odds.length e10] 27) = W2 at *
  clear c0 c1 c2 c3 c4 c5 c6 c7 c8 c9 c10 f0 f1 f2 f3 f4 f5 f6 f7 f8 f9 f10 kz
  obtain ⟨q, hq⟩ : ∃ q, q = w1.heap.size := ⟨_, rfl⟩
  rw [← hq] at kq hz1 hm2 ⊢
  clear hq
  have hbl := k02.lt
  have d0 : W2.cell? ⟨q, 0, none⟩ = some (.int .i64 1) := kq.cell 0
  have d1 : W2.cell? ⟨q, 1, none⟩ = some (.int .i64 8) := kq.cell 1
  have d2 : W2.cell? ⟨q, 2, none⟩ = some (.int .i64 4) := kq.cell 2
  have d3 : W2.cell? ⟨q, 3, none⟩ = some (.int .i64 8) := kq.cell 3
  have d4 : W2.cell? ⟨q, 4, none⟩ = some (.slice A4 M.cuts.length e4) := kq.cell 4
  have d5 : W2.cell? ⟨q, 5, none⟩ = some (.slice A5 M.embed.length e5) := kq.cell 5
  have d6 : W2.cell? ⟨q, 6, none⟩ = some (.slice A6 M.place.length e6) := kq.cell 6
  have d7 : W2.cell? ⟨q, 7, none⟩ = some (.slice A7 M.mix.length e7) := kq.cell 7
  have d8 : W2.cell? ⟨q, 8, none⟩ = some (.slice A8 M.out.length e8) := kq.cell 8
  have d9 : W2.cell? ⟨q, 9, none⟩ = some (.slice A9 M.soft.length e9) := kq.cell 9
  have d10 : W2.cell? ⟨q, 10, none⟩ = some (.slice A10 M.odds.length e10) := kq.cell 10
  have c0 : W2.cell? ⟨b, 0, none⟩ = some (.int .i64 0) := k02.cell 0
  have c1 : W2.cell? ⟨b, 1, none⟩ = some (.int .i64 0) := k02.cell 1
  have c2 : W2.cell? ⟨b, 2, none⟩ = some (.int .i64 0) := k02.cell 2
  have c3 : W2.cell? ⟨b, 3, none⟩ = some (.int .i64 0) := k02.cell 3
  have c4 : W2.cell? ⟨b, 4, none⟩ = some (.slice none 0 0) := k02.cell 4
  have c5 : W2.cell? ⟨b, 5, none⟩ = some (.slice none 0 0) := k02.cell 5
  have c6 : W2.cell? ⟨b, 6, none⟩ = some (.slice none 0 0) := k02.cell 6
  have c7 : W2.cell? ⟨b, 7, none⟩ = some (.slice none 0 0) := k02.cell 7
  have c8 : W2.cell? ⟨b, 8, none⟩ = some (.slice none 0 0) := k02.cell 8
  have c9 : W2.cell? ⟨b, 9, none⟩ = some (.slice none 0 0) := k02.cell 9
  have c10 : W2.cell? ⟨b, 10, none⟩ = some (.slice none 0 0) := k02.cell 10
  have f0 := k02.frozen 0
  have f1 := k02.frozen 1
  have f2 := k02.frozen 2
  have f3 := k02.frozen 3
  have f4 := k02.frozen 4
  have f5 := k02.frozen 5
  have f6 := k02.frozen 6
  have f7 := k02.frozen 7
  have f8 := k02.frozen 8
  have f9 := k02.frozen 9
  have f10 := k02.frozen 10
  have HM2 := Lib.hid hm2
  have HB2 := Lib.hid hb2
  have K02 := Lib.hid k02
  clear kq k02 hm2 hb2
  go_wp2_with fail
  have bf := blk11 W2 b 27 _ _ _ _ _ _ _ _ _ _ _ (.int .i64 1) (.int .i64 8) (.int .i64 4) (.int .i64 8) (.slice A4 M.cuts.length e4) (.slice A5 M.embed.length e5) (.slice A6 M.place.length e6) (.slice A7 M.mix.length e7) (.slice A8 M.out.length e8) (.slice A9 M.soft.length e9) (.slice A10 M.odds.length e10) K02.out
  have kf := keeps11 W2 b (.int .i64 1) (.int .i64 8) (.int .i64 4) (.int .i64 8) (.slice A4 M.cuts.length e4) (.slice A5 M.embed.length e5) (.slice A6 M.place.length e6) (.slice A7 M.mix.length e7) (.slice A8 M.out.length e8) (.slice A9 M.soft.length e9) (.slice A10 M.odds.length e10)
  (try simp only [Exit.inBlock, Exit.then])
  refine bodyPost_ret (v := .agg #[.int .i64 1, .int .i64 8, .int .i64 4, .int .i64 8, .slice A4 M.cuts.length e4, .slice A5 M.embed.length e5, .slice A6 M.place.length e6, .slice A7 M.mix.length e7, .slice A8 M.out.length e8, .slice A9 M.soft.length e9, .slice A10 M.odds.length e10]) ?_ ?_ ?_
  · exact results_cell_row (p := 0) (ty := 27) (fn := Tryz.f5) rfl _ _ b 27 #[.int .i64 1, .int .i64 8, .int .i64 4, .int .i64 8, .slice A4 M.cuts.length e4, .slice A5 M.embed.length e5, .slice A6 M.place.length e6, .slice A7 M.mix.length e7, .slice A8 M.out.length e8, .slice A9 M.soft.length e9, .slice A10 M.odds.length e10] (0, 0) _ rfl bf Tryz.underlying27 rfl rfl
  · rfl
  refine ⟨_, _, _, _, _, _, _, rfl, (HM2.out.keeps kf (by intro i hi; omega)).more (fun g _ hg => by have := HB.out; omega), ?_⟩
  have hbb := HB.out
  exact HB2.out.trans ⟨kf.os, kf.tape, kf.output, by have := kf.size; have := HB2.out.size; omega, fun g hg => kf.block g (by have := HB2.out.size; omega) (by omega)⟩
theorem demo_any (w : World) : Calls Tryz.prog 5 #[] w fun e w' =>
    ∃ v4 v5 v6 v7 v8 v9 v10, e = .returned (.agg #[.int .i64 1, .int .i64 8, .int .i64 4, .int .i64 8, v4, v5, v6, v7, v8, v9, v10]) ∧ MSl w' (fun g => w.heap.size ≤ g) demoM v4 v5 v6 v7 v8 v9 v10 ∧ Below w.heap.size w w' :=
  demo_aux demoM make_demo w
end Go.Proofs.YtedkfehdfmimoaaGreat

namespace Go.Proofs.YtedkfehdfmimoaaGreat
open Go.RowKit

theorem init_ok (M : Model) (hM : M.Ok) (hk : M.kind = 1) (c : CConf) (hc : c.Ok) : (Srv.init M c).Ok where
  M := hM
  kind := hk
  c := hc
  npages := by simp [Srv.init]
  nreqs := by simp [Srv.init]
  distinct := by intro i j hi; simp [Srv.init] at hi
  reqs := by intro i hi; simp [Srv.init] at hi
  ptok := by
    intro k hk
    have hk' : k < c.pages := by simpa [Srv.init] using hk
    have e : (Srv.init M c).pg k = zeroPage := by
      simp [Srv.init, Srv.pg, List.getD_eq_getElem?_getD, List.getElem?_replicate, hk']
    rw [e]
    exact Nat.zero_le _
  records := by simp [Srv.init]
  now := by simp [Srv.init]
  log := by
    have e : (Srv.init M c).log.length = 28 := headF_length M c
    rw [e]
    omega
theorem open_nil (s : Srv) (h : s.reqs = []) : s.open_ = [] := by
  unfold Srv.open_
  rw [h]
  rfl
theorem tick2_nil (s : Srv) (h : s.reqs = []) : s.tick2 = { s with now := s.now + 1 } := by
  have e1 : s.tick1 = { s with now := s.now + 1 } := by
    unfold Srv.tick1 Srv.late
    rw [open_nil { s with now := s.now + 1 } h]
    rfl
  unfold Srv.tick2
  rw [e1, open_nil { s with now := s.now + 1 } h]
  rfl
theorem tick_nil (s : Srv) (h : s.reqs = []) : s.tick = ({ s with now := s.now + 1 } : Srv).rec_ [4] := by
  unfold Srv.tick
  rw [tick2_nil s h]
  unfold Srv.settle
  simp [Srv.rec_, h]
theorem init_tick_ok (M : Model) (hM : M.Ok) (hk : M.kind = 1) (c : CConf) (hc : c.Ok) : (Srv.init M c).tick.Ok := by
  rw [tick_nil _ rfl]
  have h := init_ok M hM hk c hc
  exact {
    M := hM
    kind := hk
    c := hc
    npages := h.npages
    nreqs := h.nreqs
    distinct := by intro i j hi; simp [Srv.init, Srv.rec_] at hi
    reqs := by intro i hi; simp [Srv.init, Srv.rec_] at hi
    ptok := h.ptok
    records := by simp [Srv.init, Srv.rec_]
    now := by simp [Srv.init, Srv.rec_]
    log := by
      have e : (headF M c.ns).length = 28 := headF_length M c
      simp [Srv.init, Srv.rec_, recF, sealF_length, lowF_length, e]
      have : (bodyF 4 []).length = 1 := by rw [bodyF_length]; rfl
      omega }
set_option maxRecDepth 100000 in
set_option maxHeartbeats 2000000 in
theorem served_any (w : World) : Calls Tryz.prog 8 #[] w fun e w' => e = .returned (.bool true) ∧ Below w.heap.size w w' := by
  have hc : CConf.Ok ⟨1, 4, 1, 1⟩ := ⟨by decide, by decide, by decide, by decide⟩
  have HN : Hid (∀ (w : World) (T : Nat → Prop) (v4 v5 v6 v7 v8 v9 v10 : Value), MSl w T demoM v4 v5 v6 v7 v8 v9 v10 → Calls Tryz.prog 7 #[.agg #[.int .i64 1, .int .i64 8, .int .i64 4, .int .i64 8, v4, v5, v6, v7, v8, v9, v10], .agg #[.int .i64 1, .int .i64 4, .int .i64 1, .int .i64 1]] w fun e w' => ∃ own P, e = .returned (.tuple #[.pointer (some ⟨P.sa, 0, none⟩), .int .i64 0]) ∧ Rep w' own P (Srv.init demoM ⟨1, 4, 1, 1⟩) ∧ (∀ g, g < w.heap.size → own g = .other) ∧ Below w.heap.size w w') :=
    Lib.hid (fun w T v4 v5 v6 v7 v8 v9 v10 h => new_any w T demoM v4 v5 v6 v7 v8 v9 v10 h demo_ok rfl ⟨1, 4, 1, 1⟩ hc)
  have HO := Lib.hid (init_ok demoM demo_ok rfl _ hc)
  have HT := Lib.hid (init_tick_ok demoM demo_ok rfl _ hc)
  obtain ⟨s0, hs0⟩ : ∃ s0, s0 = Srv.init demoM ⟨1, 4, 1, 1⟩ := ⟨_, rfl⟩
  have hq : s0.reqs = [] := by rw [hs0]; rfl
  have hn : s0.now = 0 := by rw [hs0]; rfl
  have hr : s0.records = 0 := by rw [hs0]; rfl
  have hn1 : s0.tick.now = 1 := by rw [tick_nil _ hq]; show s0.now + 1 = 1; rw [hn]
  have hr1 : s0.tick.records = 1 := by rw [tick_nil _ hq]; show s0.records + 1 = 1; rw [hr]
  have hq1 : s0.tick.reqs = [] := by rw [tick_nil _ hq]; exact hq
  have hcn : (s0.tick.cancel 2).2 = 13 := by unfold Srv.cancel Srv.find; rw [hq1]; rfl
  rw [← hs0] at HN HO HT
  have HQ := Lib.hid hq
  have HQ1 := Lib.hid hq1
  have HNN := Lib.hid hn
  have HR := Lib.hid hr
  have HN1 := Lib.hid hn1
  have HR1 := Lib.hid hr1
  have HCN := Lib.hid hcn
  clear hc hs0 hq hn hr hn1 hr1 hq1 hcn
  go_enter Tryz.func8, Tryz.ntmps8
  go_wp2_with fail
  refine (demo_any w).mono ?_
  rintro e w1 ⟨v4, v5, v6, v7, v8, v9, v10, rfl, hm, hb1⟩
  have HM := Lib.hid hm
  have HB1 := Lib.hid hb1
  clear hm hb1
  go_wp2_with fail
  refine (HN.out w1 _ v4 v5 v6 v7 v8 v9 v10 HM.out).mono ?_
  rintro e w2 ⟨own, P, rfl, hrep, hoth, hb2⟩
  have HTK := Lib.hid (tick_any w2 own P s0 hrep HO.out (by rw [HNN.out]; omega) (by rw [HR.out]; omega) s0.reqs.length (Nat.le_refl _))
  have HB2 := Lib.hid (HB1.out.trans (hb2.mono HB1.out.size))
  have HOT := Lib.hid hoth
  have hlt := hrep.server.lt
  have hz2 := hb2.size
  have HREP := Lib.hid hrep
  clear hrep hb2 hoth
  go_wp2_with fail
  refine HTK.out.mono ?_
  rintro e w3 ⟨rfl, own3, P3, hrep3, st3⟩
  have HNW := Lib.hid (now_any w3 own3 P3 _ hrep3)
  have HCA := Lib.hid (cancel_any w3 own3 P3 _ hrep3 HT.out (by rw [HR1.out]; omega) 2 (by omega) _ (Nat.le_refl _))
  have hsa : P3.sa = P.sa := st3.sa
  rw [hsa] at HNW HCA
  rw [HN1.out] at HNW
  rw [HCN.out] at HCA
  have HST := Lib.hid st3
  clear hsa hrep3 st3
  go_wp2_with fail
  refine HNW.out.mono ?_
  rintro e w' ⟨rfl, rfl⟩
  go_wp2_with fail
  refine HCA.out.mono ?_
  rintro e w4 ⟨rfl, own4, P4, hrep4, st4⟩
  go_wp2_with fail
  go_ret
  have k : Keeps (fun g => own g ≠ .other) w2 w4 := (HST.out.trans st4 (by rw [HQ.out, HQ1.out]; exact Nat.le_refl _)).keeps
  have hb := HB2.out
  refine ⟨rfl, k.os.trans hb.os, k.tape.trans hb.tape, k.output.trans hb.output, Nat.le_trans hb.size k.size, fun g hg => (k.block g (Nat.lt_of_lt_of_le hg hb.size) (fun hn => hn (HOT.out g (Nat.lt_of_lt_of_le hg HB1.out.size)))).trans (hb.block g hg)⟩
end Go.Proofs.YtedkfehdfmimoaaGreat

namespace Go.Proofs.YtedkfehdfmimoaaGreat
open Go.RowKit

def Srv.waiting (s : Srv) : List Int := s.open_.map fun i => (s.req i).id
set_option maxRecDepth 100000 in
set_option maxHeartbeats 1000000 in
theorem waiting_any (w : World) (own : Nat → Slot) (P : Ptrs) (s : Srv) (h : Rep w own P s) (hd : s.Distinct) (hn : s.reqs.length ≤ 12) :
    Calls Tryz.prog 15 #[.pointer (some ⟨P.sa, 0, none⟩)] w (RetFresh w 3 1 s.waiting.length (ints s.waiting)) := by
  obtain ⟨i0, hi, hz0, hz1, hz2⟩ := info_parts int_info
  have HOP := Lib.hid (open_any w own P s h hd hn)
  have hlen := s.open_length
  have hle : s.open_.length ≤ 12 := Nat.le_trans hlen hn
  have HLT := Lib.hid s.open_lt
  have HW := Lib.hid (show s.waiting = s.open_.map (fun i => (s.req i).id) from rfl)
  have H0 := Lib.hid h
  clear h hd hn hlen
  go_enter Tryz.func15, Tryz.ntmps15
  go_wp2_with fail
  refine HOP.out.mono ?_
  rintro e w1 ⟨v, rfl, ho, hb1⟩
  obtain ⟨n, hnx⟩ : ∃ n, n = s.open_.length := ⟨_, rfl⟩
  rw [← hnx] at ho hle
  obtain ⟨A, c, rfl, -, -⟩ := ho.shape
  have hrd := ho.reads
  have H1 := Lib.hid (H0.out.fresh hb1)
  have HRD := Lib.hid hrd
  have HB1 := Lib.hid hb1
  have hz1w := hb1.size
  have HN := Lib.hid hnx
  clear ho hrd hb1 hnx
  go_wp2_with fail
  go_loopw [3, 5, 9] (fun v _ i wr => ∃ k : Nat, k ≤ n ∧ i = .int .i64 k ∧ Own wr (fun g => w1.heap.size ≤ g) 3 1 v k (ints (s.waiting.take k)) ∧ Below w1.heap.size w1 wr) (fun _ _ i _ => n - (intOf i).toNat)
  case atStart => exact ⟨0, by omega, rfl, Own.nil_ _ _ _ _, Below.refl _ _⟩
  obtain ⟨k, hk, rfl, ho, hb⟩ := hrel
  have hwz := hb.size
  by_cases hlt : k < n
  · have hko : k < s.open_.length := by rw [← HN.out]; exact hlt
    obtain ⟨ad, u, rfl, -, hT, hu, hc⟩ := HRD.out.at_ hlt
    obtain ⟨j, hj⟩ : ∃ j, j = s.open_[k] := ⟨_, rfl⟩
    have hju : u = .pointer (some ⟨P.rb j, 0, none⟩) := by
      have e : (ptrs P.rb s.open_)[k]? = some (.pointer (some ⟨P.rb s.open_[k], 0, none⟩)) := by
        unfold ptrs
        rw [List.getElem?_map, List.getElem?_eq_getElem hko]
        rfl
      rw [e] at hu
      injection hu with hu
      rw [← hu, hj]
    subst hju
    have hjl : j < s.reqs.length := by rw [hj]; exact HLT.out _ (List.getElem_mem hko)
    have hr := H1.out.fresh hb
    have c0 : wr.cell? ⟨P.rb j, 0, none⟩ = some (.int .i64 (s.req j).id) := hr.rcell j _ (s.req_get j hjl) 0
    have hrd2 := HRD.out.fresh hb
    obtain ⟨ad', u', e1, -, -, hu2, hc2⟩ := hrd2.at_ hlt
    injection e1 with e1
    subst e1
    rw [hu] at hu2
    injection hu2 with hu2
    subst hu2
    have hsu : s.waiting.take (k + 1) = s.waiting.take k ++ [(s.req j).id] := by
      rw [HW.out, List.take_succ_eq_append_getElem (by rw [List.length_map]; exact hko), List.getElem_map, hj]
    have HSU := Lib.hid hsu
    have HO := Lib.hid ho
    have HB := Lib.hid hb
    generalize (s.req j).id = x at *
    have hk12 : k ≤ 12 := by omega
    clear hu hT hc hj hjl hr hrd2 hsu ho hb hko
    go_wp2_with (first | (at_builtin; go_must (refine wpList_append_any _ rfl _ _ 22 rfl 3 i0 _ 1 8 Tryz.underlying22 hi hz0 hz1 hz2 rfl (by omega) u3 _ _ rfl (HO.out.alloc _) _ 1 1 _ rfl (own_lit _ (fun _ => True) _ [_] 1 (by decide) rfl trivial).reads (by intro u hu; simp at hu; subst hu; rfl) (by unfold maxLen; omega) (by omega) ?_); intro v' w3 happ))
    go_roundw
    case rel =>
      have hg3 : wr.grownBy w3 u3.ownBlock := grown_after (wr := wr) (W1 := wr) (n := 0) (Below.refl _ _) happ.2.1
      have hrow : ∀ g, u3.ownBlock = some g → w1.heap.size ≤ g := fun g hg => HO.out.2 g hg
      refine ⟨k + 1, by omega, by go_num, ?_, HB.out.grown hg3 HB.out.size (fun g hg => hrow g hg)⟩
      rw [HSU.out]
      have ha := happ.1.more (T' := fun g => w1.heap.size ≤ g) fun g _ hg => by
        rcases hg with hg | hg
        · exact hg
        · simp at hg; omega
      simp only [ints, List.map_append, List.map_cons, List.map_nil]
      exact ha
    case measure => simp [intOf]; omega
  · obtain rfl : k = n := by omega
    have HO := Lib.hid ho
    have HB := Lib.hid hb
    clear ho hb
    go_wp2_with fail
    go_ret
    have hl : s.waiting.length = k := by rw [HW.out, List.length_map, HN.out]
    refine ⟨_, rfl, ?_, HB1.out.trans (HB.out.mono hz1w)⟩
    have ho := HO.out
    rw [List.take_of_length_le (by omega)] at ho
    rw [hl]
    exact ho.more fun g _ h => by omega
end Go.Proofs.YtedkfehdfmimoaaGreat

namespace Go.Proofs.YtedkfehdfmimoaaGreat
open Go.RowKit

theorem bclone_any (w : World) (T : Nat → Prop) (ad : Addr) (n c : Nat) (xs : List Value) (hr : Reads w T 1 (some ad) n xs) (h1 : ∀ u ∈ xs, u.oneCell' = true) (hn : n ≤ 1000000000000) :
    Calls Tryz.prog 53 #[.slice (some ad) n c] w (RetFresh w 5 1 n xs) := by
  obtain ⟨i0, hi, hz0, hz1, hz2⟩ := info_parts u8_info
  have he := fun W : World => Lib.run_eql_slice_nil (P := Tryz.prog) W 56 5 (some ad) n c 0 0 Tryz.underlying56
  go_enter Tryz.func53, Tryz.ntmps53
  go_wp2_with (at_builtin; refine wpList_append_any _ rfl _ _ 56 rfl 5 i0 _ 1 1 Tryz.underlying56 hi hz0 hz1 hz2 rfl (by omega) (.slice (some ⟨w.heap.size, 0, none⟩) 0 0) 0 [] rfl (own_empty w (fun g => w.heap.size ≤ g) _ _ (Nat.le_refl _)) _ n c xs rfl (hr.alloc _) h1 (by unfold maxLen; omega) (by omega) ?_; intro v1 w1 happ)
  go_ret
  refine ⟨_, rfl, ?_, ?_⟩
  · have h := happ.1
    simp only [Nat.zero_add, List.nil_append] at h
    exact h.more fun g _ hg => by rcases hg with hg | hg; exact hg; simp at hg; omega
  · refine below_of_app (by go_grown) happ (by simp) (fun g hg => ?_)
    simp [Value.ownBlock] at hg
    omega
set_option maxHeartbeats 400000 in
theorem log_any (w : World) (own : Nat → Slot) (P : Ptrs) (s : Srv) (h : Rep w own P s) (h0 : 0 < s.log.length) (hn : s.log.length ≤ 100000000) :
    Calls Tryz.prog 23 #[.pointer (some ⟨P.sa, 0, none⟩)] w (RetFresh w 5 1 s.log.length (bytes s.log)) := by
  have c19 : w.cell? ⟨P.sa, 19, none⟩ = some P.vlog := h.scell 19
  have ho := h.log
  obtain ⟨g, cap, hv, -⟩ := ho.form h0
  rw [hv] at c19 ho
  have HC := Lib.hid (bclone_any w _ _ _ cap _ ho.reads (bytes_one _) (by omega))
  obtain ⟨n, hnn⟩ : ∃ n, n = s.log.length := ⟨_, rfl⟩
  rw [← hnn] at c19 HC ⊢
  clear h ho hv hnn
  go_enter Tryz.func23, Tryz.ntmps23
  go_wp2_with fail
  refine HC.out.mono ?_
  rintro e w1 ⟨v, rfl, hf⟩
  go_wp2_with fail
  go_ret
  exact ⟨v, rfl, hf⟩
end Go.Proofs.YtedkfehdfmimoaaGreat

namespace Go.Proofs.YtedkfehdfmimoaaGreat
open Go.RowKit

/-- 'weftmake.Below' as a function. -/
def belowF (x n : Int) : Int := if n < 1 then 0 else if x.tmod n < 0 then x.tmod n + n else x.tmod n
theorem belowF_range (x n : Int) : 0 ≤ belowF x n ∧ (1 ≤ n → belowF x n < n) ∧ (n < 1 → belowF x n = 0) := by
  unfold belowF
  by_cases h : n < 1
  · rw [if_pos h]; exact ⟨Int.le_refl 0, fun h1 => by omega, fun _ => rfl⟩
  · rw [if_neg h]
    have h1 := Int.tmod_lt_of_pos x (show 0 < n by omega)
    have h2 : -n < x.tmod n := by
      have h3 := Int.tmod_lt_of_pos (-x) (show 0 < n by omega)
      rw [Int.neg_tmod] at h3
      omega
    split <;> exact ⟨by omega, fun _ => by omega, fun h4 => by omega⟩

set_option maxHeartbeats 400000 in
theorem below_any (x n : Int) (w : World) (hn : -9223372036854775808 ≤ n ∧ n ≤ 9223372036854775807) :
    Calls Tryz.prog 47 #[.int .i64 x, .int .i64 n] w fun e w' => e = .returned (.int .i64 (belowF x n)) ∧ w = w' := by
  go_enter Tryz.func47, Tryz.ntmps47
  go_wp2
  · go_ret
    exact ⟨by unfold belowF; rw [if_pos (by assumption)]; rfl, rfl⟩
  · go_ret
    have h1 : 1 ≤ n := by assumption
    have h2 : x.tmod n < 0 := by assumption
    refine ⟨?_, rfl⟩
    unfold belowF
    rw [if_neg (by omega), if_pos h2]
    have h3 := Int.tmod_lt_of_pos (-x) (show 0 < n by omega)
    rw [Int.neg_tmod] at h3
    show Ending.returned (.int .i64 (wrap64 _)) = _
    rw [IntWalk.wrap64_in _ ⟨by omega, by omega⟩]
  · go_ret
    have h1 : 1 ≤ n := by assumption
    have h2 : 0 ≤ x.tmod n := by assumption
    exact ⟨by unfold belowF; rw [if_neg (by omega), if_neg (by omega)]; rfl, rfl⟩

/-- The stream at block p: its list reads as l, its place is a. -/
structure Str (w : World) (p : Nat) (A : Option Addr) (n c : Nat) (l : List Int) (a : Int) : Prop where
  blk : Blk w p 25 #[.slice A n c, .int .i64 a]
  reads : Reads w (· ≠ p) 1 A n (ints l)
  wf : ∀ x ∈ l, -9223372036854775808 ≤ x ∧ x ≤ 9223372036854775807
  len : n ≤ 9223372036854775807
  at0 : 0 ≤ a

section
variable {w w' : World} {p : Nat} {A : Option Addr} {n c : Nat} {l : List Int} {a : Int}
theorem Str.keeps {S : Nat → Prop} (h : Str w p A n c l a) (hk : Keeps S w w') (hp : ¬ S p) (hs : ∀ ad, A = some ad → ¬ S ad.block) : Str w' p A n c l a := by
  refine ⟨hk.blk h.blk hp, ?_, h.wf, h.len, h.at0⟩
  refine ⟨h.reads.1, fun hn => ?_⟩
  obtain ⟨ad, e, hb, ht, hc⟩ := h.reads.2 hn
  exact ⟨ad, e, Nat.lt_of_lt_of_le hb hk.size, ht, fun j u hu => (hk.cell (by rw [block_of_add]; exact hb) (by rw [block_of_add]; exact hs ad e)).trans (hc j u hu)⟩
theorem Str.fresh (h : Str w p A n c l a) (hk : Below w.heap.size w w') : Str w' p A n c l a :=
  ⟨(hk.block p h.blk.lt).trans h.blk, h.reads.fresh hk, h.wf, h.len, h.at0⟩
theorem Str.set (h : Str w p A n c l a) (a' : Int) (h0 : 0 ≤ a') : Str (w.setCell ⟨p, 1, none⟩ (.int .i64 a')) p A n c l a' :=
  ⟨h.blk.set_ 1 _, h.reads.setCell (fun h => h rfl) _, h.wf, h.len, h0⟩
theorem Str.drew (h : Str w p A n c l a) : Str w.drew p A n c l a := ⟨h.blk.drew, h.reads.drew, h.wf, h.len, h.at0⟩
theorem Str.drewN (h : Str w p A n c l a) (k : Nat) : Str (w.drewN k) p A n c l a := ⟨h.blk.drewN k, h.reads.drewN k, h.wf, h.len, h.at0⟩
theorem Str.alloc (h : Str w p A n c l a) (o : Obj) : Str (w.alloc o) p A n c l a := ⟨h.blk.alloc o, h.reads.alloc o, h.wf, h.len, h.at0⟩
theorem Str.setFar (h : Str w p A n c l a) {q : Addr} (hq : w.heap.size ≤ q.block) (u : Value) : Str (w.setCell q u) p A n c l a := by
  have := h.blk.lt
  refine ⟨h.blk.far (by omega) u, ?_, h.wf, h.len, h.at0⟩
  exact h.reads.keep (by simp [World.setCell]) fun r hr _ => World.cell?_setCell_other w q r u (fun e => by subst e; omega)
end

/-- What a method of the stream leaves: some number with a property, the stream moved on by at most m places, all else kept. -/
def StrPost (w : World) (p : Nat) (A : Option Addr) (n c : Nat) (l : List Int) (a m : Int) (R : Int → Prop) (e : Ending) (w' : World) : Prop :=
  ∃ v a', e = .returned (.int .i64 v) ∧ R v ∧ a ≤ a' ∧ a' ≤ a + m ∧ Str w' p A n c l a' ∧ Keeps (· = p) w w'

set_option maxHeartbeats 400000 in
theorem next_any (w : World) (p : Nat) (A : Option Addr) (n c : Nat) (l : List Int) (a m : Int) (h : Str w p A n c l a) (ha : a ≤ 1000000000) (hm : -9223372036854775808 ≤ m ∧ m ≤ 9223372036854775807) :
    Calls Tryz.prog 20 #[.pointer (some ⟨p, 0, none⟩), .int .i64 m] w (StrPost w p A n c l a 1 fun v => 0 ≤ v ∧ (1 ≤ m → v < m) ∧ (m < 1 → v = 0)) := by
  have c0 := h.blk.cell 0
  have c1 := h.blk.cell 1
  have f1 := h.blk.frozen 1
  have a0 := h.at0
  have hl := h.len
  by_cases hn : n = 0
  · subst hn
    go_enter Tryz.func20, Tryz.ntmps20
    go_wp2_with (go_at_call 47; refine (below_any _ _ _ hm).mono ?_; rintro e w' ⟨rfl, rfl⟩)
    go_ret
    exact ⟨_, a + 1, rfl, belowF_range _ m, by omega, by omega, h.set _ (by omega), Keeps.setCell (Keeps.refl (· = p) w) (fun _ => rfl) _⟩
  · have e1 : a % n < n := Int.emod_lt_of_pos a (show (0 : Int) < n by omega)
    have e0 : 0 ≤ a % n := Int.emod_nonneg a (show (n : Int) ≠ 0 by omega)
    obtain ⟨ad, u, rfl, hb, ht, hu, hc⟩ := h.reads.at_ (k := (a % n).toNat) (by omega)
    have hll : (a % n).toNat < l.length := by have := h.reads.1; simp [ints] at this; omega
    have hw := h.wf _ (List.getElem_mem hll)
    rw [ints_get l _ hll] at hu
    obtain ⟨x, hx⟩ : ∃ x, x = l[(a % n).toNat] := ⟨_, rfl⟩
    rw [← hx] at hu hw
    injection hu with hu
    subst hu
    clear hx
    have hc1 : (w.setCell ⟨p, 1, none⟩ (.int .i64 (a + 1))).cell? (ad.add (a % n).toNat) = some (.int .i64 x) := by
      rw [World.cell?_setCell_other _ _ _ _ (fun e => by have := congrArg Addr.block e; rw [block_of_add] at this; exact ht this.symm)]
      exact hc
    clear hc ht
    go_enter Tryz.func20, Tryz.ntmps20
    go_wp2_with fail
    go_quiet (fail)
    go_wp2_with fail
    go_quiet (fail)
    go_wp2_with fail
    refine (below_any _ _ _ (by omega)).mono ?_
    rintro e w' ⟨rfl, rfl⟩
    go_wp2_with fail
    refine (below_any _ _ _ hm).mono ?_
    rintro e w' ⟨rfl, rfl⟩
    go_wp2_with fail
    go_ret
    exact ⟨_, a + 1, rfl, belowF_range _ m, by omega, by omega, (h.set _ (by omega)).drewN _, (Keeps.setCell (Keeps.refl (· = p) w) (fun _ => rfl) _).drewN _⟩

set_option maxHeartbeats 400000 in
theorem range_any (w : World) (p : Nat) (A : Option Addr) (n c : Nat) (l : List Int) (a lo hi : Int) (h : Str w p A n c l a) (ha : a ≤ 1000000000)
    (h1 : -1000000000000 ≤ lo) (h2 : lo ≤ hi) (h3 : hi ≤ 1000000000000) :
    Calls Tryz.prog 9 #[.pointer (some ⟨p, 0, none⟩), .int .i64 lo, .int .i64 hi] w (StrPost w p A n c l a 1 fun v => lo ≤ v ∧ v ≤ hi) := by
  go_enter Tryz.func9, Tryz.ntmps9
  go_wp2_with fail
  refine (next_any w p A n c l a _ h ha (by omega)).mono ?_
  rintro e w' ⟨v, a', rfl, ⟨r1, r2, r3⟩, g1, g2, hs, hk⟩
  have r4 := r2 (by omega)
  clear r2 r3
  go_wp2_with fail
  go_ret
  exact ⟨_, a', rfl, ⟨by omega, by omega⟩, g1, g2, hs, hk⟩

set_option maxHeartbeats 400000 in
theorem flip_any (w : World) (p : Nat) (A : Option Addr) (n c : Nat) (l : List Int) (a m : Int) (h : Str w p A n c l a) (ha : a ≤ 1000000000) (hm : -9223372036854775808 ≤ m ∧ m ≤ 9223372036854775807) :
    Calls Tryz.prog 10 #[.pointer (some ⟨p, 0, none⟩), .int .i64 m] w fun e w' => ∃ b a', e = .returned (.bool b) ∧ a ≤ a' ∧ a' ≤ a + 1 ∧ Str w' p A n c l a' ∧ Keeps (· = p) w w' := by
  go_enter Tryz.func10, Tryz.ntmps10
  go_wp2_with fail
  refine (next_any w p A n c l a _ h ha hm).mono ?_
  rintro e w' ⟨v, a', rfl, ⟨r1, r2, r3⟩, g1, g2, hs, hk⟩
  clear r2 r3
  go_wp2_with fail
  go_ret
  exact ⟨_, a', rfl, g1, g2, hs, hk⟩

set_option maxHeartbeats 400000 in
theorem pick_any (w : World) (p : Nat) (A : Option Addr) (n c : Nat) (l : List Int) (a : Int) (h : Str w p A n c l a) (ha : a ≤ 1000000000)
    (C : Addr) (k cap : Nat) (xs : List Int) (T : Nat → Prop) (hx : Reads w T 1 (some C) k (ints xs)) (hT : ¬ T p) (hk0 : 0 < k) (hk1 : k ≤ 1000000) :
    Calls Tryz.prog 26 #[.pointer (some ⟨p, 0, none⟩), .slice (some C) k cap] w (StrPost w p A n c l a 1 fun v => v ∈ xs) := by
  go_enter Tryz.func26, Tryz.ntmps26
  go_wp2_with fail
  refine (next_any w p A n c l a _ h ha (by omega)).mono ?_
  rintro e w' ⟨v, a', rfl, ⟨r1, r2, r3⟩, g1, g2, hs, hk⟩
  have r4 := r2 (by omega)
  clear r2 r3
  have hx' := hx.keeps hk (fun i hi => by rintro rfl; exact hT hi)
  obtain ⟨v, rfl⟩ := Int.eq_ofNat_of_zero_le r1
  obtain ⟨ad, u, he, _, _, hu, hc⟩ := hx'.at_ (k := v) (by omega)
  injection he with he
  subst he
  have hv : v < xs.length := by have := hx.1; simp [ints] at this; omega
  rw [ints_get xs _ hv] at hu
  have hmem := List.getElem_mem hv
  injection hu with hu
  rw [← hu] at hc
  obtain ⟨y, hy⟩ : ∃ y, y = xs[v] := ⟨_, rfl⟩
  rw [← hy] at hc hmem
  clear hy hu
  go_wp2_with fail
  go_ret
  exact ⟨_, a', rfl, hmem, g1, g2, hs, hk⟩

set_option maxHeartbeats 400000 in
theorem word_any (w : World) (p : Nat) (A : Option Addr) (n c : Nat) (l : List Int) (a : Int) (h : Str w p A n c l a) (ha : a ≤ 900000000) :
    Calls Tryz.prog 59 #[.pointer (some ⟨p, 0, none⟩)] w (StrPost w p A n c l a 3 fun v => -2147483648 ≤ v ∧ v ≤ 2147483647) := by
  go_enter Tryz.func59, Tryz.ntmps59
  go_wp2_with fail
  refine (next_any w p A n c l a _ h (by omega) (by omega)).mono ?_
  rintro e w' ⟨v, a', rfl, ⟨r1, r2, r3⟩, g1, g2, hs, hk⟩
  clear r2 r3
  go_wp2_with fail
  · refine (next_any _ p A n c l a' _ hs (by omega) (by omega)).mono ?_
    rintro e w2 ⟨v2, a2, rfl, ⟨q1, q2, q3⟩, k1, k2, hs2, hk2⟩
    have q4 := q2 (by omega)
    clear q2 q3
    go_wp2_with fail
    go_ret
    exact ⟨_, a2, rfl, ⟨by omega, by omega⟩, by omega, by omega, hs2, hk.tr hk2⟩
  · refine (next_any _ p A n c l a' _ hs (by omega) (by omega)).mono ?_
    rintro e w2 ⟨v2, a2, rfl, ⟨q1, q2, q3⟩, k1, k2, hs2, hk2⟩
    have q4 := q2 (by omega)
    clear q2 q3
    go_wp2_with fail
    go_ret
    exact ⟨_, a2, rfl, ⟨by omega, by omega⟩, by omega, by omega, hs2, hk.tr hk2⟩
  · refine (next_any _ p A n c l a' _ hs (by omega) (by omega)).mono ?_
    rintro e w2 ⟨v2, a2, rfl, ⟨q1, q2, q3⟩, k1, k2, hs2, hk2⟩
    have q4 := q2 (by omega)
    clear q2 q3
    go_wp2_with fail
    refine (next_any _ p A n c l a2 _ hs2 (by omega) (by omega)).mono ?_
    rintro e w3 ⟨v3, a3, rfl, ⟨u1, u2, u3⟩, l1, l2, hs3, hk3⟩
    have u4 := u2 (by omega)
    clear u2 u3
    go_wp2_with fail
    go_ret
    exact ⟨_, a3, rfl, ⟨by omega, by omega⟩, by omega, by omega, hs3, (hk.tr hk2).tr hk3⟩
  · refine (range_any _ p A n c l a' _ _ hs (by omega) (by omega) (by omega) (by omega)).mono ?_
    rintro e w2 ⟨v2, a2, rfl, ⟨q1, q2⟩, k1, k2, hs2, hk2⟩
    go_wp2_with fail
    go_ret
    exact ⟨_, a2, rfl, ⟨by omega, by omega⟩, by omega, by omega, hs2, hk.tr hk2⟩

set_option maxHeartbeats 400000 in
theorem int_any (w : World) (p : Nat) (A : Option Addr) (n c : Nat) (l : List Int) (a : Int) (h : Str w p A n c l a) (ha : a ≤ 800000000) :
    Calls Tryz.prog 60 #[.pointer (some ⟨p, 0, none⟩)] w (StrPost w p A n c l a 4 fun v => -1099511627776 ≤ v ∧ v ≤ 1099511627777) := by
  have hp := h.blk.lt
  go_enter Tryz.func60, Tryz.ntmps60
  go_wp2_with fail
  refine (flip_any w p A n c l a _ h (by omega) (by omega)).mono ?_
  rintro e w' ⟨b, a', rfl, g1, g2, hs, hk⟩
  have hp' := hs.blk.lt
  go_wp2_with fail
  · refine (pick_any _ p A n c l a' (hs.alloc _) (by omega) _ _ _ [2147483648, -2147483649, 4294967296, 1099511627777, -1099511627776] _ (reads_new _ _ _ _ rfl) (by show ¬ (p = _); omega) (by decide) (by decide)).mono ?_
    rintro e w2 ⟨v2, a2, rfl, q1, k1, k2, hs2, hk2⟩
    go_wp2_with fail
    go_ret
    refine ⟨_, a2, rfl, ?_, by omega, by omega, hs2, ((hk.alloc _).tr hk2)⟩
    simp at q1
    omega
  · refine (word_any _ p A n c l a' hs (by omega)).mono ?_
    rintro e w2 ⟨v2, a2, rfl, ⟨q1, q2⟩, k1, k2, hs2, hk2⟩
    go_wp2_with fail
    go_ret
    exact ⟨_, a2, rfl, ⟨by omega, by omega⟩, by omega, by omega, hs2, hk.tr hk2⟩
end Go.Proofs.YtedkfehdfmimoaaGreat

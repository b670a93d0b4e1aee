/- New. The tokens of a request alone, and that the server makes the same. The calls that a log holds, made again: they do not depend on what is synced. -/
import Derived.Test.YtedkfehdfmimoaaGreatKc27
import Derived.Test.YtedkfehdfmimoaaGreatKc17
import Derived.Deep.DeepCutAuto
import Derived.Laws.MakeOwn
import Derived.Test.YtedkfehdfmimoaaGreatKc25
namespace Go.Proofs.YtedkfehdfmimoaaGreat
open Go.RowKit

def CConf.ns (c : CConf) : List Int := [(c.pages : Int), c.pageSize, c.batch, c.queue]
def Srv.init (M : Model) (c : CConf) : Srv := ⟨M, c, 0, [], List.replicate c.pages zeroPage, headF M c.ns, 0, 28, false⟩
theorem mcell_set (M : Model) (vs : List Value) (k : Nat) (x : Value) : (mcell M vs).setIfInBounds (4 + k) x = mcell M (vs.set k x) := by
  apply Array.toList_inj.1
  unfold mcell
  simp [List.set_append, show ¬ 4 + k < 4 by omega]
  rw [show 4 + k = k + 4 by omega]
  rfl
theorem mcell_get (M : Model) (vs : List Value) (k : Nat) : (mcell M vs)[4 + k]? = vs[k]? := by
  rw [← Array.getElem?_toList]
  unfold mcell
  simp
  rw [show 4 + k = k + 4 by omega]
  simp

theorem page_info : (Tryz.prog.info? 106).map (fun i => (i.zero, i.size, i.bytes)) = some (some (.agg #[.int .i64 0, .slice none 0 0, .int .i64 0, .int .i64 0]), 4, 48) := by kernel_rfl
def zeroCells : Array Value := #[.int .i64 0, .slice none 0 0, .int .i64 0, .int .i64 0]
theorem zero_length (n : Nat) : ∀ m, (pagesFrom (fun _ => .slice none 0 0) m (List.replicate n zeroPage)).length = n * 4 := by
  induction n with
  | zero => intro m; rfl
  | succ n ih => intro m; simp only [List.replicate_succ, pagesFrom, List.length_append, ih]; simp [pageCell]; omega
theorem zero_get (n : Nat) : ∀ m i, i < n * 4 → (pagesFrom (fun _ => .slice none 0 0) m (List.replicate n zeroPage))[i]? = some (zeroCells[i % 4]!) := by
  induction n with
  | zero => intro m i h; omega
  | succ n ih =>
    intro m i h
    simp only [List.replicate_succ, pagesFrom]
    match i with
    | 0 => rfl
    | 1 => rfl
    | 2 => rfl
    | 3 => rfl
    | i + 4 =>
      rw [List.getElem?_append_right (by simp [pageCell]), show i + 4 - (pageCell (.slice none 0 0) zeroPage).length = i by simp [pageCell], ih (m + 1) i (by omega), Nat.add_mod_right]
theorem made_pages (n : Nat) : madeCells zeroCells (n * 4) = (pagesFrom (fun _ => .slice none 0 0) 0 (List.replicate n zeroPage)).toArray := by
  apply Array.toList_inj.1
  apply List.ext_getElem?
  intro i
  by_cases hi : i < n * 4
  · rw [List.toList_toArray, zero_get n 0 i hi]
    simp [madeCells, hi, zeroCells]
  · rw [List.getElem?_eq_none (l := (pagesFrom (fun _ => .slice none 0 0) 0 (List.replicate n zeroPage)).toArray.toList) (by rw [List.toList_toArray, zero_length]; omega), List.getElem?_eq_none (by simp [madeCells]; omega)]

theorem rep_init (wf : World) (M : Model) (c : CConf) (sb mb pb zW zr z' : Nat) (x4 x5 x6 x7 x8 x9 x10 vlog : Value)
    (ks : Blk wf sb 70 #[.int .i64 M.kind, .int .i64 M.vocab, .int .i64 M.width, .int .i64 M.top, x4, x5, x6, x7, x8, x9, x10, .int .i64 c.pages, .int .i64 c.pageSize, .int .i64 c.batch, .int .i64 c.queue, .int .i64 M.vocab, .int .i64 0, .map (some mb), .slice (some ⟨pb, 0, none⟩) c.pages c.pages, vlog, .int .i64 0, .int .i64 28, .bool false])
    (km : MapIs wf mb []) (kp : Blk wf pb 106 (pagesFrom (fun _ => .slice none 0 0) 0 (List.replicate c.pages zeroPage)).toArray)
    (hl : Own wf (fun g => z' ≤ g) 5 1 vlog 28 (bytes (headF M c.ns))) (hll : (headF M c.ns).length = 28) (hm : MSl wf (fun g => zW ≤ g ∧ g < zr) M x4 x5 x6 x7 x8 x9 x10)
    (hs : zr ≤ sb ∧ sb < z') (hmb : zr ≤ mb ∧ mb < z') (hpb : zr ≤ pb ∧ pb < z') (d1 : sb ≠ mb) (d2 : sb ≠ pb) (d3 : mb ≠ pb) (hz : zW ≤ zr) (hwf : z' ≤ wf.heap.size) :
    ∃ own P, sb = P.sa ∧ Rep wf own P (Srv.init M c) ∧ ∀ g, g < zW → own g = .other := by
  obtain ⟨own, ho⟩ : ∃ own : Nat → Slot, own = fun g => if g = sb then .server else if g = mb then .map else if g = pb then .pages else if z' ≤ g ∧ g < wf.heap.size then .log else if zW ≤ g ∧ g < zr then .model else .other := ⟨_, rfl⟩
  refine ⟨own, ⟨sb, mb, pb, fun _ => 0, fun _ => .slice none 0 0, fun _ => .slice none 0 0, fun _ => .slice none 0 0, fun _ => .slice none 0 0, vlog, x4, x5, x6, x7, x8, x9, x10⟩, rfl, ⟨?_, ?_, km, ?_, fun i hi => absurd hi (by simp [Srv.init]), kp, ?_, fun k hk => ?_, ?_, ?_, fun g hg => ?_⟩, fun g hg => ?_⟩
  · have e : serverCells ⟨sb, mb, pb, fun _ => 0, fun _ => .slice none 0 0, fun _ => .slice none 0 0, fun _ => .slice none 0 0, fun _ => .slice none 0 0, vlog, x4, x5, x6, x7, x8, x9, x10⟩ (Srv.init M c) = #[.int .i64 M.kind, .int .i64 M.vocab, .int .i64 M.width, .int .i64 M.top, x4, x5, x6, x7, x8, x9, x10, .int .i64 c.pages, .int .i64 c.pageSize, .int .i64 c.batch, .int .i64 c.queue, .int .i64 M.vocab, .int .i64 0, .map (some mb), .slice (some ⟨pb, 0, none⟩) c.pages c.pages, vlog, .int .i64 0, .int .i64 28, .bool false] := by
      simp [serverCells, Srv.init]
    rw [e]; exact ks
  · rw [ho]; simp
  · rw [ho]; simp [Ne.symm d1]
  · rw [ho]; simp [Ne.symm d2, Ne.symm d3]
  · have e : (Srv.init M c).pages[k] = zeroPage := by simp [Srv.init]
    rw [e]
    exact Own.nil_ _ _ _ _
  · have e : (Srv.init M c).log.length = 28 := hll
    rw [e]
    refine hl.more fun g hg h => ?_
    rw [ho]
    simp only [show ¬ g = sb by omega, show ¬ g = mb by omega, show ¬ g = pb by omega, if_false, show z' ≤ g ∧ g < wf.heap.size from ⟨h, hg⟩, and_self, if_true]
  · refine hm.more fun g hg h => ?_
    rw [ho]
    simp only [show ¬ g = sb by omega, show ¬ g = mb by omega, show ¬ g = pb by omega, if_false, show ¬ (z' ≤ g ∧ g < wf.heap.size) by omega, h, and_self, if_true]
  · rw [ho]
    simp only [show ¬ g = sb by omega, show ¬ g = mb by omega, show ¬ g = pb by omega, if_false, show ¬ (z' ≤ g ∧ g < wf.heap.size) by omega, show ¬ (zW ≤ g ∧ g < zr) by omega]
  · rw [ho]
    simp only [show ¬ g = sb by omega, show ¬ g = mb by omega, show ¬ g = pb by omega, if_false, show ¬ (z' ≤ g ∧ g < wf.heap.size) by omega, show ¬ (zW ≤ g ∧ g < zr) by omega]

end Go.Proofs.YtedkfehdfmimoaaGreat

namespace Go.Proofs.YtedkfehdfmimoaaGreat
open Go.RowKit

def gen (M : Model) (seed : Int) (p : List Int) : Nat → List Int
  | 0 => []
  | k + 1 => gen M seed p k ++ [((M.next (entriesOf M (p ++ gen M seed p k)) (drawF seed k) : Nat) : Int)]
def tokA (M : Model) (seed : Int) (p : List Int) (k : Nat) : Int := (M.next (entriesOf M (p ++ gen M seed p k)) (drawF seed k) : Nat)
theorem gen_succ (M : Model) (seed : Int) (p : List Int) (k : Nat) : gen M seed p (k + 1) = gen M seed p k ++ [tokA M seed p k] := rfl
theorem gen_length (M : Model) (seed : Int) (p : List Int) (k : Nat) : (gen M seed p k).length = k := by
  induction k with
  | zero => rfl
  | succ k ih => rw [gen_succ, List.length_append, ih]; rfl
def stopA (M : Model) (seed : Int) (p : List Int) (most : Int) (k : Nat) : Prop := tokA M seed p k = 0 ∨ (k : Int) + 1 = most
/-- K tokens are what the request has alone -/
structure IsAlone (M : Model) (seed : Int) (p : List Int) (most : Int) (K : Nat) : Prop where
  one : 1 ≤ K
  stop : stopA M seed p most (K - 1)
  first : ∀ j, j < K - 1 → ¬ stopA M seed p most j
theorem IsAlone.unique {M : Model} {seed : Int} {p : List Int} {most : Int} {K L : Nat} (h : IsAlone M seed p most K) (k : IsAlone M seed p most L) : K = L := by
  have h1 := h.one
  have k1 := k.one
  rcases Nat.lt_trichotomy K L with e | e | e
  · exact absurd h.stop (k.first _ (by omega))
  · exact e
  · exact absurd k.stop (h.first _ (by omega))
structure Good (M : Model) (r : Req) : Prop where
  toks : r.tokens = r.prompt ++ gen M r.seed r.prompt r.made
  yet : r.ended = false → ∀ j, j < r.made → ¬ stopA M r.seed r.prompt r.most j
  fin : r.ended = true → r.err = 0 → IsAlone M r.seed r.prompt r.most r.made
  err : r.ended = true → r.err = 0 ∨ r.err = 18
theorem Good.tok_eq {M : Model} {r : Req} (h : Good M r) : nextTok M r = tokA M r.seed r.prompt r.made := by
  unfold nextTok tokA
  rw [h.toks]
theorem Good.stops_iff {M : Model} {r : Req} (h : Good M r) : stops M r ↔ stopA M r.seed r.prompt r.most r.made := by
  unfold stops stopA
  rw [h.tok_eq]
theorem Good.closed (M : Model) (now : Nat) : Closed M now fun _ r => Good M r where
  core := by
    intro _ r r' h hq
    obtain ⟨e1, e2, e3, e4, e5, e6, e7, e8, e9, e10⟩ := core_id h
    refine ⟨by rw [e6, e3, e5, e7]; exact hq.toks, ?_, ?_, ?_⟩
    · rw [e8, e7, e5, e3, e4]; exact hq.yet
    · rw [e8, e9, e7, e5, e3, e4]; exact hq.fin
    · rw [e8, e9]; exact hq.err
  made := by
    intro _ r h1 h2 hq
    refine ⟨?_, fun _ j hj => ?_, fun h => (by rw [show (madeReq M r).ended = r.ended from rfl, h1] at h; cases h), fun h => (by rw [show (madeReq M r).ended = r.ended from rfl, h1] at h; cases h)⟩
    · show r.tokens ++ [nextTok M r] = r.prompt ++ gen M r.seed r.prompt (r.made + 1)
      rw [gen_succ, hq.tok_eq, hq.toks, List.append_assoc]
    · show ¬ stopA M r.seed r.prompt r.most j
      have hj' : j < r.made + 1 := hj
      by_cases e : j = r.made
      · subst e; exact fun h => h2 (hq.stops_iff.2 h)
      · exact hq.yet h1 j (by omega)
  fin := by
    intro _ r h1 h2 hq
    refine ⟨?_, fun h => (by cases h), fun _ _ => ⟨by show 1 ≤ r.made + 1; omega, hq.stops_iff.1 h2, fun j hj => ?_⟩, fun _ => Or.inl rfl⟩
    · show r.tokens ++ [nextTok M r] = r.prompt ++ gen M r.seed r.prompt (r.made + 1)
      rw [gen_succ, hq.tok_eq, hq.toks, List.append_assoc]
    · exact hq.yet h1 j (by have hj' : j < r.made + 1 - 1 := hj; omega)
  late := by
    intro _ r _ _ hq
    exact ⟨hq.toks, fun h => (by cases h), fun _ h => (by cases h), fun _ => Or.inr rfl⟩
theorem Good.settle {M : Model} {r : Req} (n : Nat) (h : Good M r) : Good M (settleReq n r) := by
  unfold settleReq
  split
  · exact ⟨h.toks, h.yet, h.fin, h.err⟩
  · exact h
/-- the request is that of a call -/
def AskOf (r : Ask) (q : Req) : Prop := q.id = r.id ∧ q.deadline = r.deadline ∧ q.prompt = r.prompt ∧ q.most = r.most ∧ q.seed = r.seed
theorem AskOf.closed (M : Model) (now : Nat) (f : Nat → Option Ask) : Closed M now fun i q => ∀ r, f i = some r → AskOf r q where
  core := by
    intro i q q' h hq r hr
    obtain ⟨e1, e2, e3, e4, e5, -⟩ := core_id h
    have := hq r hr
    unfold AskOf at this ⊢
    rw [e1, e2, e3, e4, e5]
    exact this
  made := fun _ _ _ _ hq r hr => hq r hr
  fin := fun _ _ _ _ hq r hr => hq r hr
  late := fun _ _ _ _ hq r hr => hq r hr
theorem settleReq_ask {r : Ask} {q : Req} (n : Nat) (h : AskOf r q) : AskOf r (settleReq n q) := by
  unfold settleReq
  split
  · exact h
  · exact h

/-- What holds in ServeAlone of the server and of the calls that were accepted. -/
structure Run (s : Srv) (asked : List Ask) : Prop where
  ok : s.Ok
  ids : s.Ids
  replay : s.replay = false
  now : s.now ≤ s.records
  good : ∀ i, i < s.reqs.length → Good s.M (s.req i)
  many : asked.length = s.reqs.length
  ask : ∀ i r, asked[i]? = some r → AskOf r (s.req i)
theorem Run.init (M : Model) (hM : M.Ok) (hk : M.kind = 1) (c : CConf) (hc : c.Ok) (h : (Srv.init M c).Ok) : Run (Srv.init M c) [] :=
  ⟨h, fun i hi => by simp [Srv.init] at hi, rfl, Nat.zero_le _, fun i hi => by simp [Srv.init] at hi, rfl, fun i r h => by simp at h⟩
theorem Run.tick {s : Srv} {asked : List Ask} (h : Run s asked) (hrec : s.records ≤ 9000) : Run s.tick asked ∧ Ticked s s.tick ∧ (∀ i, i < s.reqs.length → (s.tick.req i).deadline = (s.req i).deadline) ∧ ∀ i, i < s.reqs.length → (s.tick.req i).ended = false → (s.now : Int) + 1 ≤ (s.tick.req i).deadline := by
  obtain ⟨t, a1, a2⟩ := tick_all _ s h.ok h.now hrec (Good.closed s.M (s.now + 1))
  obtain ⟨-, b1, -⟩ := tick_all _ s h.ok h.now hrec (AskOf.closed s.M (s.now + 1) fun i => asked[i]?)
  have hask : ∀ i r, asked[i]? = some r → AskOf r (s.tick.req i) := fun i r hr => by
    obtain ⟨q, hq, e⟩ := b1 i (fun r' hr' => h.ask i r' hr') (by have := (List.getElem?_eq_some_iff.1 hr).1; rw [h.many] at this; exact this)
    rw [e]
    exact settleReq_ask _ (hq r hr)
  have hget : ∀ i, i < s.reqs.length → ∃ r, asked[i]? = some r := fun i hi => ⟨_, List.getElem?_eq_getElem (by rw [h.many]; exact hi)⟩
  refine ⟨⟨t.ok, ?_, by rw [t.replay]; exact h.replay, by rw [t.now, t.records]; have := h.now; omega, ?_, by rw [t.nreqs]; exact h.many, hask⟩, t, ?_, a2⟩
  · intro i hi
    rw [t.nreqs] at hi
    obtain ⟨r, hr⟩ := hget i hi
    rw [(hask i r hr).1, ← (h.ask i r hr).1]
    exact h.ids i hi
  · intro i hi
    rw [t.nreqs] at hi
    rw [t.M]
    obtain ⟨q, hq, e⟩ := a1 i (h.good i hi) hi
    rw [e]
    exact hq.settle _
  · intro i hi
    obtain ⟨r, hr⟩ := hget i hi
    rw [(hask i r hr).2.1, ← (h.ask i r hr).2.1]
theorem Run.submit {s : Srv} {asked : List Ask} (h : Run s asked) (hrec : s.records ≤ 9000) (r : Ask) (hr : r.id ≤ 9) : if (s.submit r).2 = 0 then Run (s.submit r).1 (asked ++ [r]) ∧ (s.submit r).1.records = s.records + 1 ∧ (s.submit r).1.now = s.now ∧ (s.submit r).1.M = s.M ∧ (s.submit r).1.c = s.c ∧
      (∀ i, i < (s.submit r).1.reqs.length → (((s.submit r).1.req i).deadline = r.deadline ∨ i < s.reqs.length ∧ ((s.submit r).1.req i).deadline = (s.req i).deadline)) ∧ 1 ≤ r.most ∧ r.most ≤ 32 ∧ -2147483648 ≤ r.seed ∧ r.seed ≤ 2147483647 ∧ 1 ≤ r.prompt.length ∧ r.prompt.length ≤ 32 ∧ (∀ t ∈ r.prompt, 0 ≤ t ∧ t < (s.M.vocab : Int)) ∧ 1 ≤ r.id else (s.submit r).1 = s := by
  by_cases h0 : s.accErr r = 0
  · have e2 : (s.submit r).2 = 0 := by unfold Srv.submit; rw [if_pos h0]
    rw [if_pos e2]
    obtain ⟨a1, a2, a3⟩ := submit_ok s h.ok h.ids hrec r hr h0
    have hq : ∀ i, (s.submit r).1.req i = if i < s.reqs.length then s.req i else if i = s.reqs.length then newReq r else zeroReq := fun i => by rw [a3]; exact add_req s (newReq r) i
    have hl : (s.submit r).1.reqs.length = s.reqs.length + 1 := by rw [a3]; show (s.reqs ++ [newReq r]).length = _; simp
    have hM : (s.submit r).1.M = s.M := by rw [a3]; rfl
    obtain ⟨b1, b2, b3, b4, b5, b6⟩ := accErr_ok h0
    obtain ⟨i1, i2, i3, i4, i5, i6, i7, i8⟩ := b1
    have htok : ∀ t ∈ r.prompt, 0 ≤ t ∧ t < (s.M.vocab : Int) := by
      intro t ht
      rw [List.any_eq_false] at b3
      have := b3 t ht
      unfold badTok at this
      simp at this
      omega
    refine ⟨⟨a1, a2, by rw [a3]; exact h.replay, ?_, ?_, by rw [hl, List.length_append, h.many]; rfl, ?_⟩, by rw [a3]; rfl, by rw [a3]; rfl, hM, by rw [a3]; rfl, ?_, i5, i6, i7, i8, b2.1, b2.2, htok, i1⟩
    · rw [a3]
      show s.now ≤ s.records + 1
      have := h.now
      omega
    · intro i hi
      rw [hl] at hi
      rw [hq, hM]
      by_cases h1 : i < s.reqs.length
      · rw [if_pos h1]; exact h.good i h1
      · rw [if_neg h1, if_pos (by omega)]
        exact ⟨(List.append_nil _).symm, fun _ j hj => absurd hj (Nat.not_lt_zero _), fun h => (by cases h), fun h => (by cases h)⟩
    · intro i q hi
      rw [hq]
      have hil := (List.getElem?_eq_some_iff.1 hi).1
      rw [List.length_append, h.many] at hil
      simp only [List.length_singleton] at hil
      by_cases h1 : i < s.reqs.length
      · rw [if_pos h1]
        rw [List.getElem?_append_left (by rw [h.many]; exact h1)] at hi
        exact h.ask i q hi
      · rw [if_neg h1, if_pos (by omega)]
        rw [List.getElem?_append_right (by rw [h.many]; omega), h.many, show i - s.reqs.length = 0 by omega] at hi
        simp only [List.getElem?_cons_zero, Option.some.injEq] at hi
        subst hi
        exact ⟨rfl, rfl, rfl, rfl, rfl⟩
    · intro i hi
      rw [hl] at hi
      rw [hq]
      by_cases h1 : i < s.reqs.length
      · rw [if_pos h1]; exact Or.inr ⟨h1, rfl⟩
      · rw [if_neg h1, if_pos (by omega)]; exact Or.inl rfl
  · have e : s.submit r = (s, s.accErr r) := by unfold Srv.submit; rw [if_neg h0]
    rw [e, if_neg h0]
/-- when all have ended and all is synced, each is answered as it would be alone, or is late -/
theorem Run.answer {s : Srv} {asked : List Ask} (h : Run s asked) (hop : s.open_ = []) (hsy : s.synced = s.log.length) (r : Ask) (hr : r ∈ asked) :
    s.answer r.id = ([], 18, true) ∨ ∃ K, IsAlone s.M r.seed r.prompt r.most K ∧ s.answer r.id = (gen s.M r.seed r.prompt K, 0, true) := by
  obtain ⟨i, hi, hri⟩ := List.mem_iff_getElem.1 hr
  have hri' : asked[i]? = some r := by rw [List.getElem?_eq_getElem hi, hri]
  obtain ⟨e1, e2, e3, e4, e5⟩ := h.ask i r hri'
  have hil : i < s.reqs.length := by rw [← h.many]; exact hi
  have hf : s.find r.id = some i := by
    cases hfi : s.find r.id with
    | none => exact absurd e1 ((find_iff s r.id).1 hfi i hil)
    | some j =>
      obtain ⟨j1, j2⟩ := find_some hfi
      rw [h.ok.distinct j i j1 hil (j2.trans e1.symm)]
  have hend : (s.req i).ended = true := by
    cases he : (s.req i).ended with
    | true => rfl
    | false =>
      have := (s.open_mem i).2 ⟨hil, he⟩
      rw [hop] at this
      cases this
  have htold : s.told (s.req i) = true := by
    unfold Srv.told
    have := (h.ok.reqs i hil).kept.2
    rw [hend, hsy]
    simp [this]
  have hg := h.good i hil
  have ha : s.answer r.id = if (s.req i).err ≠ 0 then ([], (s.req i).err, true) else ((s.req i).tokens.drop (s.req i).prompt.length, 0, true) := by
    unfold Srv.answer
    rw [hf]
    dsimp only
    rw [if_pos htold]
  by_cases hz : (s.req i).err = 0
  · refine Or.inr ⟨(s.req i).made, ?_, ?_⟩
    · have := hg.fin hend hz
      rwa [e3, e4, e5] at this
    · rw [ha, if_neg (by simp [hz]), hg.toks, List.drop_left, e3, e5]
  · refine Or.inl ?_
    rw [ha, if_pos hz]
    rcases hg.err hend with e | e
    · exact absurd e hz
    · rw [e]
end Go.Proofs.YtedkfehdfmimoaaGreat

namespace Go.Proofs.YtedkfehdfmimoaaGreat
open Go.RowKit

def Srv.mark (s : Srv) (y : Nat) (b : Bool) : Srv := { s with synced := y, replay := b }
section
variable (s : Srv) (y : Nat) (b : Bool)
theorem mark_mark (y' : Nat) (b' : Bool) : (s.mark y b).mark y' b' = s.mark y' b' := rfl
theorem mark_req (i : Nat) : (s.mark y b).req i = s.req i := rfl
theorem mark_self : s.mark s.synced s.replay = s := rfl
theorem mark_end (i : Nat) (e : Int) : (s.mark y b).end_ i e = (s.end_ i e).mark y b := rfl
theorem mark_lose (i : Nat) : (s.mark y b).lose i = (s.lose i).mark y b := rfl
theorem mark_lastTo (l : List Nat) (n : Nat) : lastTo (s.mark y b) l n = lastTo s l n := by
  induction n with
  | zero => rfl
  | succ n ih => unfold lastTo; rw [ih]; rfl
theorem mark_pageL (l : List Nat) (f : Nat) : ∀ s : Srv, Srv.pageL f (s.mark y b) l = ((Srv.pageL f s l).1.mark y b, (Srv.pageL f s l).2) := by
  induction f with
  | zero => intro s; rfl
  | succ f ih =>
    intro s
    unfold Srv.pageL
    rw [show (s.mark y b).spare = s.spare from rfl, mark_lastTo]
    cases s.spare with
    | some k => rfl
    | none =>
      dsimp only
      cases lastTo s l l.length with
      | none => rfl
      | some j => dsimp only; rw [mark_lose, ih]
theorem mark_page (l : List Nat) : (s.mark y b).page l = ((s.page l).1.mark y b, (s.page l).2) := mark_pageL y b l _ s
theorem mark_fill (i k : Nat) : (s.mark y b).fill i k = (s.fill i k).mark y b := rfl
theorem mark_open1 (i k : Nat) : (s.mark y b).open1 i k = (s.open1 i k).mark y b := rfl
theorem mark_compute (i : Nat) (l : List Nat) : (s.mark y b).compute i l = (s.compute i l).mark y b := by
  unfold Srv.compute
  rw [mark_page, mark_req]
  show (if (s.req i).entries % s.c.pageSize = 0 then _ else _) = _
  split
  · cases hp : s.page l with
    | mk s1 o => cases o <;> rfl
  · rfl
theorem mark_next (i : Nat) : (s.mark y b).next i = (s.next i).mark y b := by
  unfold Srv.next
  show (if nextTok s.M (s.req i) = 0 ∨ ((s.req i).made : Int) + 1 = (s.req i).most then _ else _) = _
  split <;> rfl
theorem mark_shareL (i : Nat) (f : Nat) : ∀ s : Srv, Srv.shareL f (s.mark y b) i = (Srv.shareL f s i).mark y b := by
  induction f with
  | zero => intro s; rfl
  | succ f ih =>
    intro s
    rw [shareL_succ, shareL_succ, show (s.mark y b).shared i = s.shared i from rfl]
    cases s.shared i with
    | none => rfl
    | some k => dsimp only; rw [show (s.mark y b).takeP i k = (s.takeP i k).mark y b from rfl, ih]
theorem mark_share (i : Nat) : (s.mark y b).share i = (s.share i).mark y b := mark_shareL y b i _ s
theorem mark_work (i : Nat) (l : List Nat) : (s.mark y b).work i l = (s.work i l).mark y b := by
  unfold Srv.work Srv.work2
  rw [mark_share, mark_compute, mark_next]
  show (if ((s.share i).req i).entries < ((s.share i).req i).tokens.length then _ else _) = _
  split <;> rfl
theorem mark_open : (s.mark y b).open_ = s.open_ := rfl
theorem mark_late1 (i : Nat) : (s.mark y b).late1 i = (s.late1 i).mark y b := by
  unfold Srv.late1
  show (if (s.req i).deadline < s.now then _ else _) = _
  split <;> rfl
theorem mark_lates (l : List Nat) : ∀ s : Srv, l.foldl Srv.late1 (s.mark y b) = (l.foldl Srv.late1 s).mark y b := by
  induction l with
  | nil => intro s; rfl
  | cons i l ih => intro s; rw [List.foldl_cons, List.foldl_cons, mark_late1, ih]
theorem mark_workL (l : List Nat) : ∀ (n : Nat) (s : Srv), Srv.workL l n (s.mark y b) = (Srv.workL l n s).mark y b := by
  induction l with
  | nil => intro n s; rfl
  | cons i l ih =>
    intro n s
    unfold Srv.workL
    rw [mark_work, mark_req, mark_req, ih, ih]
    show (if s.c.batch ≤ n then _ else _) = _
    split
    · rfl
    · split <;> rfl
theorem mark_tick : (s.mark y b).tick = s.tick.mark y b := by
  have e1 : (s.mark y b).tick1 = s.tick1.mark y b := mark_lates y b _ { s with now := s.now + 1 }
  have e2 : (s.mark y b).tick2 = s.tick2.mark y b := by
    unfold Srv.tick2
    rw [e1, mark_open, mark_workL]
  unfold Srv.tick
  rw [e2]
  rfl
theorem mark_cancel (id : Int) : (s.mark y b).cancel id = ((s.cancel id).1.mark y b, (s.cancel id).2) := by
  unfold Srv.cancel
  rw [show (s.mark y b).find id = s.find id from rfl]
  cases s.find id with
  | none => rfl
  | some i =>
    dsimp only
    rw [mark_req]
    split <;> rfl
theorem mark_submit (r : Ask) : (s.mark y b).submit r = ((s.submit r).1.mark y b, (s.submit r).2) := by
  unfold Srv.submit
  rw [show (s.mark y b).accErr r = s.accErr r from rfl]
  split <;> rfl
end

/-- a call that a log may hold -/
inductive Cal where
  | submit (r : Ask)
  | cancel (id : Int)
  | tick
def Srv.cal (s : Srv) : Cal → Srv × Int
  | .submit r => s.submit r
  | .cancel id => s.cancel id
  | .tick => (s.tick, 0)
def Cal.words : Cal → List Int
  | .submit r => askWords r
  | .cancel id => [2, id]
  | .tick => [4]
def Cal.Few : Cal → Prop
  | .submit r => r.id ≤ 9
  | .cancel id => 0 ≤ id ∧ id ≤ 1000000
  | .tick => True
theorem mark_cal (s : Srv) (y : Nat) (b : Bool) (o : Cal) : (s.mark y b).cal o = ((s.cal o).1.mark y b, (s.cal o).2) := by
  cases o with
  | submit r => exact mark_submit s y b r
  | cancel id => exact mark_cancel s y b id
  | tick => show ((s.mark y b).tick, (0 : Int)) = _; rw [mark_tick]; rfl

/-- What holds between calls. -/
structure Inv (s : Srv) : Prop where
  ok : s.Ok
  ids : s.Ids
  now : s.now ≤ s.records
  kept : ∀ i, i < s.reqs.length → 0 ≤ (s.req i).kept
theorem Srv.Ok.mark {s : Srv} (h : s.Ok) (y : Nat) (b : Bool) : (s.mark y b).Ok := ⟨h.M, h.kind, h.c, h.npages, h.nreqs, h.distinct, fun i hi => (h.reqs i hi).move rfl rfl rfl (Nat.le_refl _), h.ptok, h.records, h.now, h.log⟩
theorem Inv.mark {s : Srv} (h : Inv s) (y : Nat) (b : Bool) : Inv (s.mark y b) := ⟨h.ok.mark y b, h.ids, h.now, h.kept⟩
/-- what a call does to the requests -/
structure Later (s s' : Srv) : Prop where
  M : s'.M = s.M
  c : s'.c = s.c
  records : s'.records = s.records + 1
  nreqs : s.reqs.length ≤ s'.reqs.length
  id : ∀ i, i < s.reqs.length → (s'.req i).id = (s.req i).id
  old : ∀ i, i < s'.reqs.length → (s'.req i).ended = true → (i < s.reqs.length ∧ (s.req i).ended = true ∧ core (s'.req i) = core (s.req i)) ∨ (s'.req i).kept = s'.log.length
theorem settleReq_keep {n : Nat} {r : Req} (h : 0 ≤ r.kept) : settleReq n r = r := by unfold settleReq; rw [if_neg (by omega)]
theorem settleReq_neg {n : Nat} {r : Req} (h : r.kept = -1) : (settleReq n r).kept = n := by unfold settleReq; rw [if_pos (by omega)]
theorem settleReq_kept (n : Nat) (r : Req) : 0 ≤ (settleReq n r).kept := by
  unfold settleReq
  split
  · show (0 : Int) ≤ (n : Nat); omega
  · omega
theorem settleReq_end (n : Nat) (r : Req) : (settleReq n r).ended = r.ended := by unfold settleReq; split <;> rfl
theorem tick_later (s : Srv) (h : Inv s) (hrec : s.records ≤ 9000) : Inv s.tick ∧ Later s s.tick := by
  obtain ⟨t, a1, -⟩ := tick_all (fun i r => (i < s.reqs.length → r.id = (s.req i).id) ∧ ((s.req i).ended = true → core r = core (s.req i)) ∧ ((s.req i).ended = false → r.ended = true → r.kept = -1)) s h.ok h.now hrec
    ⟨fun i r r' e ⟨q0, q1, q2⟩ => by
        obtain ⟨e1, -, -, -, -, -, -, e8, -, e10⟩ := core_id e
        exact ⟨fun hi => e1.trans (q0 hi), fun hh => e.trans (q1 hh), fun hh he => by rw [e10]; exact q2 hh (by rw [← e8]; exact he)⟩,
     fun i r h1 h2 ⟨q0, q1, q2⟩ => ⟨q0, fun hh => (by rw [core_ended (q1 hh), hh] at h1; cases h1), fun _ he => by rw [show (madeReq s.M r).ended = r.ended from rfl, h1] at he; cases he⟩,
     fun i r h1 h2 ⟨q0, q1, q2⟩ => ⟨q0, fun hh => (by rw [core_ended (q1 hh), hh] at h1; cases h1), fun _ _ => rfl⟩,
     fun i r h1 _ ⟨q0, q1, q2⟩ => ⟨q0, fun hh => (by rw [core_ended (q1 hh), hh] at h1; cases h1), fun _ _ => rfl⟩⟩
  have key : ∀ i, i < s.reqs.length → ∃ r, r.id = (s.req i).id ∧ ((s.req i).ended = true → core r = core (s.req i)) ∧ ((s.req i).ended = false → r.ended = true → r.kept = -1) ∧ s.tick.req i = settleReq s.tick.log.length r := by
    intro i hi
    obtain ⟨r, ⟨q0, q1, q2⟩, e⟩ := a1 i ⟨fun _ => rfl, fun _ => rfl, fun hh he => by rw [hh] at he; cases he⟩ hi
    exact ⟨r, q0 hi, q1, q2, e⟩
  refine ⟨⟨t.ok, fun i hi => ?_, by rw [t.now, t.records]; have := h.now; omega, fun i hi => ?_⟩, t.M, t.c, t.records, by rw [t.nreqs]; exact Nat.le_refl _, fun i hi => ?_, fun i hi he => ?_⟩
  · rw [t.nreqs] at hi
    obtain ⟨r, q0, -, -, e⟩ := key i hi
    rw [e, settleReq_id, q0]
    exact h.ids i hi
  · rw [t.nreqs] at hi
    obtain ⟨r, -, -, -, e⟩ := key i hi
    rw [e]
    exact settleReq_kept _ _
  · obtain ⟨r, q0, -, -, e⟩ := key i hi
    rw [e, settleReq_id, q0]
  · rw [t.nreqs] at hi
    obtain ⟨r, -, q1, q2, e⟩ := key i hi
    rw [e, settleReq_end] at he
    cases hh : (s.req i).ended with
    | true =>
      have hc := q1 hh
      refine Or.inl ⟨hi, rfl, ?_⟩
      rw [e, settleReq_keep, hc]
      have := (core_id hc).2.2.2.2.2.2.2.2.2
      rw [this]
      exact h.kept i hi
    | false =>
      refine Or.inr ?_
      rw [e]
      exact settleReq_neg (q2 hh he)
theorem submit_later (s : Srv) (h : Inv s) (hrec : s.records ≤ 9000) (r : Ask) (hr : r.id ≤ 9) (h0 : (s.submit r).2 = 0) : Inv (s.submit r).1 ∧ Later s (s.submit r).1 := by
  have h0' : s.accErr r = 0 := by
    unfold Srv.submit at h0
    split at h0
    · assumption
    · exact h0
  obtain ⟨a1, a2, a3⟩ := submit_ok s h.ok h.ids hrec r hr h0'
  have hq : ∀ i, (s.submit r).1.req i = if i < s.reqs.length then s.req i else if i = s.reqs.length then newReq r else zeroReq := fun i => by rw [a3]; exact add_req s (newReq r) i
  have hl : (s.submit r).1.reqs.length = s.reqs.length + 1 := by rw [a3]; show (s.reqs ++ [newReq r]).length = _; simp
  refine ⟨⟨a1, a2, ?_, fun i hi => ?_⟩, by rw [a3]; rfl, by rw [a3]; rfl, by rw [a3]; rfl, by omega, fun i hi => by rw [hq, if_pos hi], fun i hi he => ?_⟩
  · rw [a3]; show s.now ≤ s.records + 1; have := h.now; omega
  · rw [hq]
    by_cases h1 : i < s.reqs.length
    · rw [if_pos h1]; exact h.kept i h1
    · rw [if_neg h1, if_pos (by omega)]; exact Int.le_refl 0
  · rw [hq] at he ⊢
    by_cases h1 : i < s.reqs.length
    · rw [if_pos h1] at he ⊢
      exact Or.inl ⟨h1, he, rfl⟩
    · rw [if_neg h1, if_pos (by omega)] at he
      cases he
theorem recF_cancel (n : Nat) (id : Int) : (recF n [2, id]).length = 15 := by
  have : (bodyF 2 [id]).length = 5 := by rw [bodyF_length]; rfl
  simp [recF, sealF_length, lowF_length, this]
theorem cancel_later (s : Srv) (h : Inv s) (hrec : s.records ≤ 9000) (id : Int) (h0 : (s.cancel id).2 = 0) : Inv (s.cancel id).1 ∧ Later s (s.cancel id).1 := by
  unfold Srv.cancel at h0 ⊢
  cases hf : s.find id with
  | none => rw [hf] at h0; cases h0
  | some i =>
    obtain ⟨f1, f2⟩ := find_some hf
    rw [hf] at h0
    dsimp only at h0 ⊢
    cases he : (s.req i).ended with
    | true => rw [he, if_pos rfl] at h0; cases h0
    | false =>
      rw [if_neg (by simp)]
      dsimp only
      have b1 := h.ok.end_ i f1 19
      have hn : (s.end_ i 19).reqs.length = s.reqs.length := Srv.end_length s i 19
      have er : (s.end_ i 19).records = s.records := rfl
      have hrq : ∀ j, j < s.reqs.length → (s.end_ i 19).req j = if i = j then { s.req i with holds := [], entries := 0, ended := true, err := 19, kept := -1 } else s.req j := by
        intro j hj
        unfold Srv.end_
        rw [giveBack_setReq, Srv.req_setReq _ _ _ _ (by exact f1)]
        rfl
      have hM : (s.end_ i 19).M = s.M := rfl
      have hc : (s.end_ i 19).c = s.c := rfl
      have hnow : (s.end_ i 19).now = s.now := rfl
      have c1 := b1.recd [2, id] (by rw [recF_cancel]; omega) (by rw [er]; omega)
      generalize s.end_ i 19 = t at *
      have hl : (t.rec_ [2, id]).settle.reqs.length = s.reqs.length := by rw [← hn]; show (t.reqs.map _).length = _; rw [List.length_map]
      have hst : ∀ j, j < s.reqs.length → (t.rec_ [2, id]).settle.req j = settleReq (t.rec_ [2, id]).log.length (t.req j) := fun j hj => (t.rec_ [2, id]).settle_req j (by show j < t.reqs.length; rw [hn]; exact hj)
      have hidd : ∀ j, j < s.reqs.length → (t.req j).id = (s.req j).id := fun j hj => by
        rw [hrq j hj]
        split
        · rename_i e; rw [e]
        · rfl
      refine ⟨⟨c1.settle, fun j hj => ?_, ?_, fun j hj => ?_⟩, hM, hc, ?_, by rw [hl]; exact Nat.le_refl _, fun j hj => ?_, fun j hj he2 => ?_⟩
      · rw [hl] at hj
        rw [hst j hj, settleReq_id, hidd j hj]
        exact h.ids j hj
      · show t.now ≤ t.records + 1
        rw [hnow, er]
        have := h.now
        omega
      · rw [hl] at hj
        rw [hst j hj]
        exact settleReq_kept _ _
      · show t.records + 1 = _
        rw [er]
      · rw [hst j hj, settleReq_id, hidd j hj]
      · rw [hl] at hj
        rw [hst j hj, settleReq_end] at he2
        rw [hst j hj]
        by_cases e : i = j
        · refine Or.inr (settleReq_neg ?_)
          rw [hrq j hj, if_pos e]
        · rw [hrq j hj, if_neg e] at he2 ⊢
          rw [settleReq_keep (h.kept j hj)]
          exact Or.inl ⟨hj, he2, rfl⟩
theorem cal_later (s : Srv) (h : Inv s) (hrec : s.records ≤ 9000) (o : Cal) (ho : o.Few) (h0 : (s.cal o).2 = 0) : Inv (s.cal o).1 ∧ Later s (s.cal o).1 := by
  cases o with
  | submit r => exact submit_later s h hrec r ho h0
  | cancel id => exact cancel_later s h hrec id h0
  | tick => exact tick_later s h hrec
theorem cal_log (s : Srv) (h : Inv s) (hrec : s.records ≤ 9000) (o : Cal) (h0 : (s.cal o).2 = 0) : (s.cal o).1.log = s.log ++ recF s.records o.words := by
  cases o with
  | submit r =>
    have h0' : (s.submit r).2 = 0 := h0
    show (s.submit r).1.log = _
    unfold Srv.submit at h0' ⊢
    split
    · rfl
    · rename_i hn
      rw [if_neg hn] at h0'
      exact absurd h0' hn
  | cancel id =>
    have h0' : (s.cancel id).2 = 0 := h0
    show (s.cancel id).1.log = _
    unfold Srv.cancel at h0' ⊢
    cases hf : s.find id with
    | none => rw [hf] at h0'; cases h0'
    | some i =>
      rw [hf] at h0'
      dsimp only at h0' ⊢
      split
      · rename_i he; rw [if_pos he] at h0'; cases h0'
      · rfl
  | tick =>
    obtain ⟨t, -, -⟩ := tick_all (fun _ _ => True) s h.ok h.now hrec ⟨fun _ _ _ _ _ => trivial, fun _ _ _ _ _ => trivial, fun _ _ _ _ _ => trivial, fun _ _ _ _ _ => trivial⟩
    exact t.log
theorem recF_pos (n : Nat) (o : Cal) : 10 ≤ (recF n o.words).length := by
  cases o with
  | submit r => show 10 ≤ (recF n (askWords r)).length; rw [recF_ask]; omega
  | cancel id => show 10 ≤ (recF n [2, id]).length; rw [recF_cancel]; omega
  | tick => show 10 ≤ (recF n [4]).length; rw [recF_four]; omega
theorem cal_no (s : Srv) (o : Cal) (h0 : (s.cal o).2 ≠ 0) : (s.cal o).1 = s := by
  cases o with
  | submit r =>
    have h0' : (s.submit r).2 ≠ 0 := h0
    show (s.submit r).1 = s
    unfold Srv.submit at h0' ⊢
    split
    · rename_i hn; rw [if_pos hn] at h0'; exact absurd rfl h0'
    · rfl
  | cancel id =>
    have h0' : (s.cancel id).2 ≠ 0 := h0
    show (s.cancel id).1 = s
    unfold Srv.cancel at h0' ⊢
    cases hf : s.find id with
    | none => rfl
    | some i =>
      rw [hf] at h0'
      dsimp only at h0' ⊢
      split
      · rfl
      · rename_i he; rw [if_neg he] at h0'; exact absurd rfl h0'
  | tick => exact absurd rfl h0

/-! ### what has been called since the start -/
def runC (M : Model) (c : CConf) (l : List Cal) : Srv := l.foldl (fun s o => (s.cal o).1) (Srv.init M c)
structure Hist (M : Model) (c : CConf) (s : Srv) (l : List Cal) : Prop where
  eq : s.mark 0 false = (runC M c l).mark 0 false
  few : ∀ o ∈ l, o.Few
  ok : ∀ j o, l[j]? = some o → ((runC M c (l.take j)).cal o).2 = 0
theorem runC_snoc (M : Model) (c : CConf) (l : List Cal) (o : Cal) : runC M c (l ++ [o]) = ((runC M c l).cal o).1 := by simp [runC]
theorem runC_take (M : Model) (c : CConf) (l : List Cal) (j : Nat) (o : Cal) (h : l[j]? = some o) : runC M c (l.take (j + 1)) = ((runC M c (l.take j)).cal o).1 := by
  rw [List.take_add_one, h, ← runC_snoc]
  rfl
theorem init_inv (M : Model) (c : CConf) (h : (Srv.init M c).Ok) : Inv (Srv.init M c) :=
  ⟨h, fun i hi => by simp [Srv.init] at hi, Nat.zero_le _, fun i hi => by simp [Srv.init] at hi⟩
section
variable {M : Model} {c : CConf} {s : Srv} {l : List Cal}
theorem Hist.init (M : Model) (c : CConf) : Hist M c (Srv.init M c) [] := ⟨rfl, fun o h => (by cases h), fun j o h => (by simp at h)⟩
theorem Hist.mark (h : Hist M c s l) (y : Nat) (b : Bool) : Hist M c (s.mark y b) l := ⟨h.eq, h.few, h.ok⟩
theorem Hist.cal (h : Hist M c s l) (o : Cal) (ho : o.Few) (h0 : (s.cal o).2 = 0) : Hist M c (s.cal o).1 (l ++ [o]) := by
  have e1 := mark_cal s 0 false o
  have e2 := mark_cal (runC M c l) 0 false o
  rw [h.eq] at e1
  have e3 := e1.symm.trans e2
  have e4 := congrArg Prod.fst e3
  have e5 := congrArg Prod.snd e3
  refine ⟨by rw [runC_snoc]; exact e4, fun p hp => ?_, fun j p hp => ?_⟩
  · rcases List.mem_append.1 hp with hp | hp
    · exact h.few p hp
    · simp at hp; rw [hp]; exact ho
  · rcases Nat.lt_or_ge j l.length with hj | hj
    · rw [List.getElem?_append_left hj] at hp
      rw [List.take_append_of_le_length (Nat.le_of_lt hj)]
      exact h.ok j p hp
    · rw [List.getElem?_append_right hj] at hp
      have hj0 : j - l.length = 0 := by
        cases hd : j - l.length with
        | zero => rfl
        | succ n => rw [hd] at hp; simp at hp
      rw [hj0] at hp
      simp only [List.getElem?_cons_zero, Option.some.injEq] at hp
      subst hp
      rw [show j = l.length by omega, List.take_left]
      exact e5.symm.trans h0
theorem Hist.take (h : Hist M c s l) (j : Nat) : Hist M c (runC M c (l.take j)) (l.take j) := by
  refine ⟨rfl, fun o ho => h.few o (List.mem_of_mem_take ho), fun i o hi => ?_⟩
  have hij : i < j := by
    rcases Nat.lt_or_ge i j with hh | hh
    · exact hh
    · rw [List.getElem?_eq_none (by rw [List.length_take]; omega)] at hi; cases hi
  rw [List.take_take, Nat.min_eq_left (Nat.le_of_lt hij)]
  rw [List.getElem?_take_of_lt hij] at hi
  exact h.ok i o hi
/-- what holds of the state behind j calls -/
structure At (M : Model) (c : CConf) (j : Nat) (s : Srv) : Prop where
  inv : Inv s
  M : s.M = M
  c : s.c = c
  records : s.records = j
theorem Hist.at_ (h : Hist M c s l) (hi : (Srv.init M c).Ok) (hl : l.length ≤ 9000) : ∀ j, j ≤ l.length → At M c j (runC M c (l.take j)) := by
  intro j
  induction j with
  | zero => intro _; exact ⟨init_inv M c hi, rfl, rfl, rfl⟩
  | succ j ih =>
    intro hj
    obtain ⟨a1, a2, a3, a4⟩ := ih (by omega)
    obtain ⟨o, ho⟩ : ∃ o, l[j]? = some o := ⟨_, List.getElem?_eq_getElem (by omega)⟩
    rw [runC_take M c l j o ho]
    obtain ⟨b1, b2⟩ := cal_later _ a1 (by rw [a4]; omega) o (h.few o (List.mem_of_getElem? ho)) (h.ok j o ho)
    exact ⟨b1, b2.M.trans a2, b2.c.trans a3, b2.records.trans (by rw [a4])⟩
end
end Go.Proofs.YtedkfehdfmimoaaGreat

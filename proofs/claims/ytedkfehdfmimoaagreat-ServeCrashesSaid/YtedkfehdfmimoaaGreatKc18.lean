/- readRecord. giveBack. end, ranging over the map, settle. settle, told. The library's insertion sort, at rows of pointers. Make's matrices. -/
import Derived.Test.YtedkfehdfmimoaaGreatKc9
import Derived.Test.YtedkfehdfmimoaaGreatKc17
import Derived.Test.YtedkfehdfmimoaaGreatRows
import Derived.Test.YtedkfehdfmimoaaGreatKc1
import Derived.Test.YtedkfehdfmimoaaGreatKc10
import Derived.Deep.RegionHeld3
import Derived.Test.YtedkfehdfmimoaaGreatKc16
import Derived.Test.YtedkfehdfmimoaaGreatKc2
namespace Go.Proofs.YtedkfehdfmimoaaGreat
open Go.RowKit

/-- a slice of bytes -/
def Bsl (w : World) (T : Nat → Prop) (v : Value) (xs : List Int) : Prop := ∃ A c, v = .slice A xs.length c ∧ Reads w T 1 A xs.length (bytes xs) ∧ xs.length ≤ c ∧ c ≤ maxLen
theorem isBytes_take {l : List Int} (h : isBytes l) (k : Nat) : isBytes (l.take k) := fun x hx => h x (List.mem_of_mem_take hx)
theorem isBytes_drop {l : List Int} (h : isBytes l) (k : Nat) : isBytes (l.drop k) := fun x hx => h x (List.mem_of_mem_drop hx)
theorem bytes_take (l : List Int) (k : Nat) : bytes (l.take k) = (bytes l).take k := by simp [bytes, List.map_take]
theorem bytes_drop (l : List Int) (k : Nat) : bytes (l.drop k) = (bytes l).drop k := by simp [bytes, List.map_drop]
/-- a part of a slice of bytes -/
theorem Bsl.part {w : World} {T : Nat → Prop} {A : Option Addr} {c : Nat} {xs : List Int} (h : Reads w T 1 A xs.length (bytes xs)) (hc : xs.length ≤ c) (p d : Nat) (hd : p + d ≤ xs.length) :
    Reads w T 1 (if c = p then A else A.map (·.add p)) d (bytes ((xs.drop p).take d)) := by
  have h1 := Reads.cut h (k := p) (cap := c) (by omega) hc
  rw [Nat.mul_one] at h1
  have h2 := h1.take (k := d) (by omega)
  rw [Nat.mul_one, ← bytes_drop, ← bytes_take] at h2
  exact h2

set_option maxRecDepth 100000 in
set_option maxHeartbeats 2000000 in
theorem read_short (w : World) (q : Nat) (A : Option Addr) (c : Nat) (xs : List Int) (hn : xs.length < 10) :
    Calls Tryz.prog 51 #[.pointer (some ⟨q, 0, none⟩), .slice A xs.length c] w fun e w' => e = .returned (.tuple #[.slice none 0 0, .slice none 0 0, .bool false]) ∧ ∃ k, w' = w.drewN k := by
  generalize xs.length = n at *
  go_enter Tryz.func51, Tryz.ntmps51
  go_wp2_with fail
  go_ret3
  exact ⟨rfl, 0, rfl⟩
set_option maxRecDepth 100000 in
set_option maxHeartbeats 2000000 in
theorem read_cut (w : World) (q : Nat) (T : Nat → Prop) (A : Option Addr) (c : Nat) (xs : List Int) (hr : Reads w T 1 A xs.length (bytes xs)) (hc : xs.length ≤ c) (hx : isBytes xs) (size : Nat) (hs : leF (xs.take 2) = size) (hs2 : size ≤ 1000000) (hn : 10 ≤ xs.length) (hn2 : xs.length < size + 10) :
    Calls Tryz.prog 51 #[.pointer (some ⟨q, 0, none⟩), .slice A xs.length c] w fun e w' => e = .returned (.tuple #[.slice none 0 0, .slice none 0 0, .bool false]) ∧ ∃ k, w' = w.drewN k := by
  have h2 := hr.take (k := 2) (by omega)
  rw [Nat.mul_one, ← bytes_take] at h2
  have hl2 : (xs.take 2).length = 2 := by rw [List.length_take]; omega
  have hcall := number_any w T A c (xs.take 2) (by rw [hl2]; exact h2) (by omega) (isBytes_take hx 2)
  rw [hl2, hs] at hcall
  have HC := Lib.hid hcall
  clear hr h2 hl2 hcall hs hx
  generalize xs.length = n at *
  have hw : IntKind.i64.wrap ((size : Int) + 10) = (size : Int) + 10 := IntWalk.i64_in _ ⟨by omega, by omega⟩
  have hd : decide ((n : Int) < (size : Int) + 10) = true := by simp; omega
  go_enter Tryz.func51, Tryz.ntmps51
  go_wp2_with fail
  refine HC.out.mono ?_
  rintro e w' ⟨rfl, rfl⟩
  go_wp2_with fail
  go_quiet (fail)
  go_wp2_with fail
  go_ret3
  exact ⟨rfl, _, rfl⟩
theorem add_at (ad : Addr) (p : Nat) (hp : p ≠ 0) : ad.add p = { block := ad.block, off := ad.off + p } := by unfold Addr.add; rw [if_neg hp]
theorem part_at {w : World} {T : Nat → Prop} {ad : Addr} {c : Nat} {xs : List Int} (h : Reads w T 1 (some ad) xs.length (bytes xs)) (hc : xs.length ≤ c) (p d : Nat) (hd : p + d ≤ xs.length) (hp : c ≠ p) (h0 : p ≠ 0) : Reads w T 1 (some { block := ad.block, off := ad.off + p }) d (bytes ((xs.drop p).take d)) := by
  have := Bsl.part h hc p d hd
  rw [if_neg hp] at this
  rw [← add_at ad p h0]
  exact this
theorem part_len (xs : List Int) (p d : Nat) (hd : p + d ≤ xs.length) : ((xs.drop p).take d).length = d := by rw [List.length_take, List.length_drop]; omega
theorem number_part (w : World) (T : Nat → Prop) (ad : Addr) (c : Nat) (xs : List Int) (hr : Reads w T 1 (some ad) xs.length (bytes xs)) (hc : xs.length ≤ c) (hx : isBytes xs) (p d c' : Nat) (hd : p + d ≤ xs.length) (hp : c ≠ p) (h0 : p ≠ 0) (hd4 : d ≤ 4) (v : Int) (hv : leF ((xs.drop p).take d) = v) :
    Calls Tryz.prog 48 #[.slice (some { block := ad.block, off := ad.off + p }) d c'] w fun e w' => e = .returned (.int .i64 v) ∧ w = w' := by
  have h1 := part_at hr hc p d hd hp h0
  have hl := part_len xs p d hd
  have := number_any w T _ c' ((xs.drop p).take d) (by rw [hl]; exact h1) (by omega) (isBytes_take (isBytes_drop hx p) d)
  rwa [hl, hv] at this
theorem code_part (w : World) (T : Nat → Prop) (ad : Addr) (xs : List Int) (hr : Reads w T 1 (some ad) xs.length (bytes xs)) (hx : isBytes xs) (d c' : Nat) (hd : d ≤ xs.length) (hn : xs.length ≤ 1000000) :
    Calls Tryz.prog 49 #[.slice (some ad) d c'] w fun e w' => e = .returned (.int .i64 (codeF (xs.take d))) ∧ w = w' := by
  have h1 := hr.take (k := d) hd
  rw [Nat.mul_one, ← bytes_take] at h1
  have hl : (xs.take d).length = d := by rw [List.length_take]; omega
  have := code_any w T (some ad) c' (xs.take d) (by rw [hl]; exact h1) (by omega) (isBytes_take hx d)
  rwa [hl] at this

set_option maxRecDepth 100000 in
set_option maxHeartbeats 4000000 in
theorem read_good (w : World) (q : Nat) (T : Nat → Prop) (A : Option Addr) (c : Nat) (xs : List Int) (hr : Reads w T 1 A xs.length (bytes xs)) (hc : xs.length ≤ c) (hx : isBytes xs) (size : Nat) (hs : leF (xs.take 2) = size) (hs2 : size ≤ 1000000) (hn : size + 10 ≤ xs.length) (hn2 : xs.length ≤ 1000000)
    (rec : Nat) (cs : Array Value) (hsv : Blk w q 70 cs) (hcs : cs[20]? = some (.int .i64 rec)) (hrec : leF ((xs.drop 2).take 4) = rec) (hsum : leF ((xs.drop (6 + size)).take 4) = codeF (xs.take (6 + size))) :
    Calls Tryz.prog 51 #[.pointer (some ⟨q, 0, none⟩), .slice A xs.length c] w fun e w' => ∃ A1 c1 A2 c2, e = .returned (.tuple #[.slice A1 size c1, .slice A2 (xs.length - (size + 10)) c2, .bool true]) ∧ (∃ k, w' = w.drewN k) ∧
      Reads w T 1 A1 size (bytes ((xs.drop 6).take size)) ∧ size + 4 ≤ c1 ∧ Reads w T 1 A2 (xs.length - (size + 10)) (bytes (xs.drop (size + 10))) ∧ xs.length - (size + 10) ≤ c2 ∧ c1 ≤ c ∧ c2 ≤ c := by
  have c20 := (hsv.cell 20).trans hcs
  obtain ⟨ad, rfl, -⟩ := hr.2 (by omega)
  have h0 := hr.take (k := 2) (by omega)
  rw [Nat.mul_one, ← bytes_take] at h0
  have hl2 : (xs.take 2).length = 2 := by rw [List.length_take]; omega
  have hcall := number_any w T (some ad) c (xs.take 2) (by rw [hl2]; exact h0) (by omega) (isBytes_take hx 2)
  rw [hl2, hs] at hcall
  have HC := Lib.hid hcall
  have H2 := Lib.hid (fun k c' => number_part (w.drewN k) T ad c xs (hr.drewN k) hc hx 2 4 c' (by omega) (by omega) (by omega) (by omega) _ hrec)
  have hh3 := (fun k c' => number_part (w.drewN k) T ad c xs (hr.drewN k) hc hx (6 + size) 4 c' (by omega) (by omega) (by omega) (by omega) _ hsum)
  rw [← add_at ad (6 + size) (by omega)] at hh3
  have hh4 := (fun k c' => code_part (w.drewN k) T ad xs (hr.drewN k) hx (6 + size) c' (by omega) (by omega))
  have HB := Lib.hid (part_at hr hc 6 size (by omega) (by omega) (by omega))
  have h7 := Bsl.part hr hc (size + 10) (xs.length - (size + 10)) (by omega)
  rw [List.take_of_length_le (by rw [List.length_drop]; exact Nat.le_refl _)] at h7
  have hci := codeF_in (xs.take (6 + size))
  obtain ⟨n, hnl⟩ : ∃ n, n = xs.length := ⟨_, rfl⟩
  rw [← hnl] at hc hn hn2 h7 ⊢
  clear hr h0 hl2 hcall hrec hsum hsv hcs hs hnl
  generalize codeF (xs.take (6 + size)) = cf at *
  generalize (bytes (xs.drop (size + 10))) = rest at *
  obtain ⟨p, hp⟩ : ∃ p, p = 6 + size := ⟨_, rfl⟩
  obtain ⟨m, hm⟩ : ∃ m, m = size + 10 := ⟨_, rfl⟩
  have hw : IntKind.i64.wrap ((size : Int) + 10) = (m : Int) := (IntWalk.i64_in _ ⟨by omega, by omega⟩).trans (by omega)
  have hw2 : IntKind.i64.wrap (10 + (size : Int)) = (m : Int) := (IntWalk.i64_in _ ⟨by omega, by omega⟩).trans (by omega)
  have hw3 : IntKind.i64.wrap (6 + (size : Int)) = (p : Int) := (IntWalk.i64_in _ ⟨by omega, by omega⟩).trans (by omega)
  rw [← hp] at hh3 hh4
  rw [← hm] at hn h7 ⊢
  have H3 := Lib.hid hh3
  have H4 := Lib.hid hh4
  have HR := Lib.hid h7
  clear hh3 hh4 h7 hx
  obtain ⟨z1, z2⟩ := hci
  have x1 : p ≤ m := by omega
  have x2 : m ≤ c := by omega
  have x3 : m - p = 4 := by omega
  have x4 : p ≤ c := by omega
  have x5 : 6 ≤ p := by omega
  have x6 : p - 6 = size := by omega
  have x7 : ¬ c = p := by omega
  have x8 : ¬ c = 6 := by omega
  have y0 : (6 : Int) ≤ c := by omega
  have y1 : ¬ c = 2 := by omega
  have hd : decide ((n : Int) < (m : Int)) = false := by simp; omega
  have y2 : (6 : Int) ≤ p := by omega
  have y3 : m ≤ n := hn
  have HP := Lib.hid hp
  have HM := Lib.hid hm
  clear hp hm
  have hcc : c = m ∨ ¬ c = m := by omega
  rcases hcc with hcn | hcn
  · subst hcn
    obtain ⟨d, hd0⟩ : ∃ d, d = n - c := ⟨_, rfl⟩
    obtain rfl : d = 0 := by omega
    have HR2 := HR.out
    rw [if_pos rfl, ← hd0] at HR2
    have HRa := Lib.hid HR2
    rw [← hd0]
    clear HR2 hd0
    go_enter Tryz.func51, Tryz.ntmps51
    go_wp2_with fail
    refine HC.out.mono ?_
    rintro e w' ⟨rfl, rfl⟩
    go_wp2_with fail
    go_quiet (first
      | (go_at_call 48; with_reducible exact quiet_left (H2.out _ _))
      | (go_at_call 48; with_reducible exact quiet_left (H3.out _ _))
      | (go_at_call 49; with_reducible exact quiet_left (H4.out _ _)))
    go_wp2_with fail
    go_quiet (fail)
    go_wp2_with fail
    go_ret3
    exact ⟨_, _, _, _, rfl, ⟨_, World.drewN_drewN _ _ _⟩, HB.out, by omega, HRa.out, by omega, by omega, by omega⟩
  · have HR2 := HR.out
    rw [if_neg hcn] at HR2
    have HRa := Lib.hid HR2
    clear HR2
    go_enter Tryz.func51, Tryz.ntmps51
    go_wp2_with fail
    refine HC.out.mono ?_
    rintro e w' ⟨rfl, rfl⟩
    go_wp2_with fail
    go_quiet (first
      | (go_at_call 48; with_reducible exact quiet_left (H2.out _ _))
      | (go_at_call 48; with_reducible exact quiet_left (H3.out _ _))
      | (go_at_call 49; with_reducible exact quiet_left (H4.out _ _)))
    go_wp2_with fail
    go_quiet (fail)
    go_wp2_with fail
    go_ret3
    exact ⟨_, _, _, _, rfl, ⟨_, World.drewN_drewN _ _ _⟩, HB.out, by omega, HRa.out, by omega, by omega, by omega⟩
end Go.Proofs.YtedkfehdfmimoaaGreat

namespace Go.Proofs.YtedkfehdfmimoaaGreat
open Go.RowKit

section
variable {w w' : World} {own own' : Nat → Slot} {P : Ptrs} {s : Srv}
theorem Rep.pcell (h : Rep w own P s) (k : Nat) (p : Page) (hk : s.pages[k]? = some p) (j : Nat) (hj : j < 4) : w.cell? ⟨P.pb, k * 4 + j, none⟩ = (pageCell (P.vpage k) p)[j]? := by
  rw [h.pages.cell]
  have := pagesFrom_get P.vpage s.pages 0 k p j hk hj
  rw [Nat.zero_add] at this
  rw [← this]
  simp [pageCells]
theorem Rep.rcell (h : Rep w own P s) (i : Nat) (r : Req) (hi : s.reqs[i]? = some r) (j : Nat) : w.cell? ⟨P.rb i, j, none⟩ = (reqCells P i r)[j]? := by
  obtain ⟨hil, hir⟩ := List.getElem?_eq_some_iff.1 hi
  have := (h.req i hil).blk.cell j
  rwa [hir] at this
theorem Rep.rfree (h : Rep w own P s) (i : Nat) (hi : i < s.reqs.length) (j : Nat) : w.frozen? ⟨P.rb i, j, none⟩ = false := (h.req i hi).blk.frozen j
theorem Srv.req_get (s : Srv) (i : Nat) (hi : i < s.reqs.length) : s.reqs[i]? = some (s.req i) := by
  unfold Srv.req
  rw [List.getD_eq_getElem?_getD, List.getElem?_eq_getElem hi]
  rfl
theorem Srv.pg_get (s : Srv) (k : Nat) (hk : k < s.pages.length) : s.pages[k]? = some (s.pg k) := by
  unfold Srv.pg
  rw [List.getD_eq_getElem?_getD, List.getElem?_eq_getElem hk]
  rfl
end
section
variable {w w' : World} {own own' : Nat → Slot} {P : Ptrs} {s : Srv}
/-- a request's rows turn, and one cell of the request. -/
theorem Rep.newReq (h : Rep w own P s) (i j : Nat) (r r' : Req) (hi : s.reqs[i]? = some r) (hid : r'.id = r.id) (hp : r'.prompt = r.prompt) {vt vh u : Value} (k0 : Keeps (fun g => own g = .tokens i ∨ own g = .holds i) w w') (ho : ∀ g, g < w.heap.size → own' g = own g)
    (hbe : ∀ g, w'.heap.size ≤ g → own' g = .other) (hot : Own w' (own' · = .tokens i) 3 1 vt r'.tokens.length (ints r'.tokens)) (hoh : Own w' (own' · = .holds i) 3 1 vh r'.holds.length (ints r'.holds))
    (hc : (reqCells P i r).setIfInBounds j u = reqCells { P with vtok := setAt P.vtok i vt, vhold := setAt P.vhold i vh } i r') (m : Nat) :
    Rep (w'.setCell ⟨P.rb i, j, none⟩ u) own' { P with vtok := setAt P.vtok i vt, vhold := setAt P.vhold i vh } (s.setReq i r') ∧ Step w own P (w'.setCell ⟨P.rb i, j, none⟩ u) own' { P with vtok := setAt P.vtok i vt, vhold := setAt P.vhold i vh } m := by
  obtain ⟨hil, hir⟩ := List.getElem?_eq_some_iff.1 hi
  have hq := h.req i hil
  rw [hir] at hq
  have hz := hq.blk.lt
  have k1 : Keeps (fun g => (own g = .tokens i ∨ own g = .holds i) ∨ own g = .req i) w (w'.setCell ⟨P.rb i, j, none⟩ u) := Keeps.setCell (S := fun g => (own g = .tokens i ∨ own g = .holds i) ∨ own g = .req i) (k0.mono fun i _ e => Or.inl e) (p := ⟨P.rb i, j, none⟩) (fun _ => Or.inr hq.oreq) u
  have hne : ∀ {sl : Slot}, sl ≠ .tokens i → sl ≠ .holds i → sl ≠ .req i → ∀ g, own g = sl → ¬ ((own g = .tokens i ∨ own g = .holds i) ∨ own g = .req i) := fun h1 h2 h3 g e e' => e'.elim (fun x => x.elim (fun x => h1 (e.symm.trans x)) (fun x => h2 (e.symm.trans x))) (fun x => h3 (e.symm.trans x))
  have hb1 := (k0.blk hq.blk (by rw [hq.oreq]; intro e; rcases e with e | e <;> cases e)).set_ j u
  have hsz : (w'.setCell ⟨P.rb i, j, none⟩ u).heap.size = w'.heap.size := by simp
  refine ⟨⟨k1.blk h.server (hne (by intro h; cases h) (by intro h; cases h) (by intro h; cases h) _ h.oserver), (ho _ h.server.lt).trans h.oserver, ?_, (ho _ h.map.lt).trans h.omap, fun k hk => ?_,
    k1.blk h.pages (hne (by intro h; cases h) (by intro h; cases h) (by intro h; cases h) _ h.opages), (ho _ h.pages.lt).trans h.opages,
    fun k hk => (h.page k hk).step k1 ho (hne (by intro h; cases h) (by intro h; cases h) (by intro h; cases h)), h.log.step k1 ho (hne (by intro h; cases h) (by intro h; cases h) (by intro h; cases h)), h.model.step k1 ho (hne (by intro h; cases h) (by intro h; cases h) (by intro h; cases h)), ?_⟩, ?_, ho, rfl, fun _ _ => rfl, rfl, rfl⟩
  · show MapIs _ P.ma (((s.reqs.set i r').zipIdx).map fun x => (x.1.id, P.rb x.2))
    rw [zipIdx_set_id s.reqs i r r' hi hid P.rb]
    exact h.map.keep (k1.block _ h.map.lt (hne (by intro h; cases h) (by intro h; cases h) (by intro h; cases h) _ h.omap))
  · have hkl : k < s.reqs.length := by simpa [Srv.setReq] using hk
    have hq' : (s.setReq i r').reqs[k]? = some (s.setReq i r').reqs[k] := List.getElem?_eq_getElem hk
    generalize (s.setReq i r').reqs[k] = q at hq' ⊢
    unfold Srv.setReq at hq'
    simp only [List.getElem?_set] at hq'
    by_cases e : i = k
    · subst e
      rw [if_pos rfl, if_pos hil] at hq'
      injection hq' with hq'
      subst hq'
      refine ⟨by rw [← hc]; exact hb1, (ho _ hz).trans hq.oreq, ?_, ?_, ?_⟩
      · rw [hp]; exact hq.prompt.step k1 ho (hne (by intro h; cases h) (by intro h; cases h) (by intro h; cases h))
      · show Own _ _ _ _ (setAt P.vtok i vt i) r'.tokens.length (ints r'.tokens)
        rw [show setAt P.vtok i vt i = vt from if_pos rfl]
        refine Own.setCell hot (p := ⟨P.rb i, j, none⟩) ?_ u
        show ¬ own' (P.rb i) = .tokens i
        rw [ho _ hz, hq.oreq]
        intro e; cases e
      · show Own _ _ _ _ (setAt P.vhold i vh i) r'.holds.length (ints r'.holds)
        rw [show setAt P.vhold i vh i = vh from if_pos rfl]
        refine Own.setCell hoh (p := ⟨P.rb i, j, none⟩) ?_ u
        show ¬ own' (P.rb i) = .holds i
        rw [ho _ hz, hq.oreq]
        intro e; cases e
    · rw [if_neg e, List.getElem?_eq_getElem hkl] at hq'
      injection hq' with hq'
      subst hq'
      refine ((h.req k hkl).step k1 ho fun g e' => ?_).move rfl (if_neg (Ne.symm e)) (if_neg (Ne.symm e)) rfl
      rcases e' with e' | e' | e' | e' <;> refine hne (fun h => ?_) (fun h => ?_) (fun h => ?_) g e' <;> cases h <;> exact e rfl
  · intro g hg
    rw [hsz] at hg
    exact hbe g hg
  · exact k1.mono fun i _ e => by rcases e with (e | e) | e <;> rw [e] <;> intro h <;> cases h
/-- the holds become nil. -/
theorem Rep.nilHolds (h : Rep w own P s) (i : Nat) (r : Req) (hi : s.reqs[i]? = some r) (m : Nat) :
    Rep (w.setCell ⟨P.rb i, 7, none⟩ (.slice none 0 0)) own { P with vhold := setAt P.vhold i (.slice none 0 0) } (s.setReq i { r with holds := [] }) ∧ Step w own P (w.setCell ⟨P.rb i, 7, none⟩ (.slice none 0 0)) own { P with vhold := setAt P.vhold i (.slice none 0 0) } m := by
  obtain ⟨hil, hir⟩ := List.getElem?_eq_some_iff.1 hi
  have hq := h.req i hil
  rw [hir] at hq
  have := h.newReq i 7 r { r with holds := [] } hi rfl rfl (vt := P.vtok i) (vh := .slice none 0 0) (u := .slice none 0 0) (Keeps.refl _ w) (fun _ _ => rfl) h.beyond hq.tokens (Own.nil_ w _ _ _) (by simp [reqCells, setAt]) m
  rwa [setAt_same] at this
/-- one cell of a request turns, no row. -/
theorem Rep.reqSame (h : Rep w own P s) (i j : Nat) (r r' : Req) (hi : s.reqs[i]? = some r) (hid : r'.id = r.id) (hp : r'.prompt = r.prompt) (ht : r'.tokens = r.tokens) (hh : r'.holds = r.holds) {u : Value} (hc : (reqCells P i r).setIfInBounds j u = reqCells P i r') (m : Nat) :
    Rep (w.setCell ⟨P.rb i, j, none⟩ u) own P (s.setReq i r') ∧ Step w own P (w.setCell ⟨P.rb i, j, none⟩ u) own P m := by
  obtain ⟨hil, hir⟩ := List.getElem?_eq_some_iff.1 hi
  have hq := h.req i hil
  rw [hir] at hq
  have := h.newReq i j r r' hi hid hp (vt := P.vtok i) (vh := P.vhold i) (u := u) (Keeps.refl _ w) (fun _ _ => rfl) h.beyond (by rw [ht]; exact hq.tokens) (by rw [hh]; exact hq.holds) (by rw [setAt_same, setAt_same]; exact hc) m
  rwa [setAt_same, setAt_same] at this
end

theorem backPages_succ (ps : Nat) (l : List Page) (hs : List Int) (j : Nat) (h : j < hs.length) :
    backPages ps l (hs.take (j + 1)) = (backPages ps l (hs.take j)).set (hs[j]).toNat (backPage ps ((backPages ps l (hs.take j)).getD (hs[j]).toNat zeroPage)) := by
  unfold backPages
  rw [List.take_succ_eq_append_getElem h, List.foldl_append]
  rfl
theorem backPages_length (ps : Nat) (hs : List Int) : ∀ l : List Page, (backPages ps l hs).length = l.length := by
  induction hs with
  | nil => exact fun _ => rfl
  | cons k hs ih => intro l; show (backPages ps _ hs).length = _; rw [ih]; simp
def backTo (s : Srv) (hs : List Int) (j : Nat) : Srv := { s with pages := backPages s.c.pageSize s.pages (hs.take j) }
theorem backTo_succ (s : Srv) (hs : List Int) (k q : Nat) (hx : hs[k]? = some (q : Int)) : (backTo s hs k).setPage q (backPage s.c.pageSize ((backTo s hs k).pg q)) = backTo s hs (k + 1) := by
  obtain ⟨hl, he⟩ := List.getElem?_eq_some_iff.1 hx
  unfold backTo
  rw [backPages_succ _ _ _ _ hl, he]
  rfl
theorem set_setPage (s : Srv) (k : Nat) (p q : Page) : (s.setPage k p).setPage k q = s.setPage k q := by simp [Srv.setPage]
theorem set_setReq (s : Srv) (k : Nat) (p q : Req) : (s.setReq k p).setReq k q = s.setReq k q := by simp [Srv.setReq]

set_option maxRecDepth 100000 in
set_option maxHeartbeats 1000000 in
theorem giveBack_any (w : World) (own : Nat → Slot) (P : Ptrs) (s : Srv) (h : Rep w own P s) (i : Nat) (hi : i < s.reqs.length) (hh : ∀ k ∈ (s.req i).holds, 0 ≤ k ∧ k < (s.pages.length : Int)) (m : Nat) :
    Calls Tryz.prog 69 #[.pointer (some ⟨P.sa, 0, none⟩), .pointer (some ⟨P.rb i, 0, none⟩)] w fun e w' => e = .returned (.tuple #[]) ∧ ∃ own' P', Rep w' own' P' (s.giveBack i) ∧ Step w own P w' own' P' m := by
  have hir := s.req_get i hi
  have hq := h.req i hi
  have hri : s.reqs[i] = s.req i := by rw [List.getElem?_eq_getElem hi] at hir; injection hir
  rw [hri] at hq
  obtain ⟨A, c, hv, hc1, hc2⟩ := hq.holds.shape
  have c7 : w.cell? ⟨P.rb i, 7, none⟩ = some (.slice A (s.req i).holds.length c) := by rw [← hv]; exact h.rcell i _ hir 7
  have hps0 : 0 ≤ s.c.pageSize := Nat.zero_le _
  generalize hR : s.req i = r at *
  obtain ⟨n, hn⟩ : ∃ n, n = r.holds.length := ⟨_, rfl⟩
  rw [← hn] at c7 hc1
  have HN := Lib.hid hn
  have HR := Lib.hid hR
  have HV := Lib.hid hv
  have HIR := Lib.hid hir
  have HH := Lib.hid hh
  have HI := Lib.hid hi
  have H0 := Lib.hid h
  clear hn hR hv hir hq hri hh hi h
  unfold maxLen at hc2
  go_enter Tryz.func69, Tryz.ntmps69
  go_wp2_with fail
  go_loopw [12] (fun x wr => ∃ (k : Nat) (own' : Nat → Slot) (P' : Ptrs), k ≤ n ∧ x = .int .i64 k ∧ Rep wr own' P' (backTo s r.holds k) ∧ Step w own P wr own' P' m ∧ P'.vhold i = P.vhold i ∧ P'.rb i = P.rb i ∧ P'.pb = P.pb) (fun x _ => n - (intOf x).toNat)
  case atStart => exact ⟨0, own, P, by omega, rfl, H0.out, Step.refl _ _ _ _, rfl, rfl, rfl⟩
  obtain ⟨k, own1, P1, hk, rfl, h1, st1, e1, e2, e3⟩ := hrel
  have hi' : i < (backTo s r.holds k).reqs.length := HI.out
  have hir1 : (backTo s r.holds k).reqs[i]? = some r := HIR.out
  by_cases hlt : k < n
  · have hq1 := h1.req i hi'
    obtain ⟨ad, hA, x, hx, hcx⟩ : ∃ ad, A = some ad ∧ ∃ x, r.holds[k]? = some x ∧ wr.cell? (ad.add k) = some (.int .i64 x) := by
      have hri : (backTo s r.holds k).reqs[i] = r := by rw [List.getElem?_eq_getElem hi'] at hir1; injection hir1
      rw [hri] at hq1
      have ho := hq1.holds
      rw [e1, HV.out] at ho
      obtain ⟨ad, u, rfl, -, -, hu, hc⟩ := ho.reads.at_ (k := k) (by rw [← HN.out]; exact hlt)
      have hkl : k < r.holds.length := by rw [← HN.out]; exact hlt
      rw [ints_get _ _ hkl] at hu
      injection hu with hu
      subst hu
      exact ⟨ad, rfl, _, List.getElem?_eq_getElem hkl, hc⟩
    subst hA
    obtain ⟨hx0, hx1⟩ := HH.out x (List.mem_of_getElem? hx)
    obtain ⟨q, rfl⟩ := Int.eq_ofNat_of_zero_le hx0
    have HX := Lib.hid hx
    have hql : q < (backTo s r.holds k).pages.length := by show q < (backPages _ _ _).length; rw [backPages_length]; omega
    have hpq := Srv.pg_get _ q hql
    have hl1 : (backTo s r.holds k).pages.length = s.pages.length := backPages_length _ _ _
    have c18 : wr.cell? ⟨P.sa, 18, none⟩ = some (.slice (some ⟨P.pb, 0, none⟩) s.pages.length s.pages.length) := by
      have := h1.server.cell 18
      rw [st1.sa] at this
      rw [this, ← e3, ← hl1]; rfl
    have d2 := h1.pcell q _ hpq 2 (by omega)
    rw [e3] at d2
    generalize hpp : (backTo s r.holds k).pg q = p at *
    have d2' : wr.cell? ⟨P.pb, q * 4 + 2, none⟩ = some (.int .i64 p.owners) := d2
    clear hq1 d2 hx hir1 hi' hpq hl1
    have HH1 := Lib.hid h1
    clear h1
    have f2 : wr.frozen? ⟨P.pb, q * 4 + 2, none⟩ = false := by rw [← e3]; exact HH1.out.pages.frozen _
    go_wp2_with fail
    obtain ⟨h2, st2⟩ := HH1.out.pageSame q 2 p { p with owners := wrap64 (p.owners - 1) } (by rw [← hpp]; exact Srv.pg_get _ q hql) (by omega) (u := .int .i64 (wrap64 (p.owners - 1))) rfl rfl m
    rw [e3] at h2 st2
    have HPP := Lib.hid hpp
    clear c18 hcx f2 d2' hpp
    generalize wr.setCell ⟨P.pb, q * 4 + 2, none⟩ (.int .i64 (wrap64 (p.owners - 1))) = W at *
    have HO : Hid (backPage s.c.pageSize p = if wrap64 (p.owners - 1) = 0 ∧ p.tokens.length < s.c.pageSize then zeroPage else { p with owners := wrap64 (p.owners - 1) }) := Lib.hid rfl
    generalize wrap64 (p.owners - 1) = o at *
    have hq2 : ((backTo s r.holds k).setPage q { p with owners := o }).pages[q]? = some { p with owners := o } := by
      show ((backTo s r.holds k).pages.set q _)[q]? = _
      rw [List.getElem?_set_self hql]
    have d2 := h2.pcell q _ hq2 2 (by omega)
    have d1 := h2.pcell q _ hq2 1 (by omega)
    have c12 : W.cell? ⟨P.sa, 12, none⟩ = some (.int .i64 s.c.pageSize) := by
      have := h2.server.cell 12
      rw [st1.sa] at this
      exact this
    obtain ⟨At, ct, hvt, -, -⟩ : ∃ At ct, P1.vpage q = .slice At p.tokens.length ct ∧ True ∧ True := by
      have hl2 : q < ((backTo s r.holds k).setPage q { p with owners := o }).pages.length := by show q < ((backTo s r.holds k).pages.set q _).length; rw [List.length_set]; exact hql
      obtain ⟨At, ct, hvt, -, -⟩ := (h2.page q hl2).shape
      refine ⟨At, ct, ?_, trivial, trivial⟩
      rw [hvt]
      rw [List.getElem?_eq_getElem hl2] at hq2
      injection hq2 with hq2
      rw [hq2]
    rw [e3] at d1 d2
    have d1' : W.cell? ⟨P.pb, q * 4 + 1, none⟩ = some (.slice At p.tokens.length ct) := by rw [d1, ← hvt]; rfl
    have d2' : W.cell? ⟨P.pb, q * 4 + 2, none⟩ = some (.int .i64 o) := d2
    have HQ2 := Lib.hid hq2
    have H2 := Lib.hid h2
    have HVT := Lib.hid hvt
    clear hq2 h2 hvt d1 d2
    have hround : ∀ (W' : World) (P3 : Ptrs), Rep W' own1 P3 (backTo s r.holds (k + 1)) → Step W own1 P1 W' own1 P3 m → P3.vhold i = P1.vhold i → P3.rb i = P1.rb i →
        ∃ (k_1 : Nat) (own' : Nat → Slot) (P' : Ptrs), k_1 ≤ n ∧ Value.int .i64 ((k : Int) + 1) = .int .i64 k_1 ∧ Rep W' own' P' (backTo s r.holds k_1) ∧ Step w own P W' own' P' m ∧ P'.vhold i = P.vhold i ∧ P'.rb i = P.rb i ∧ P'.pb = P.pb := fun W' P3 a b c d =>
      ⟨k + 1, own1, P3, by omega, by go_num, a, (st1.trans st2 (Nat.le_refl _)).trans b (Nat.le_refl _), c.trans e1, d.trans e2, b.pb.trans e3⟩
    have HRD := Lib.hid hround
    clear hround
    by_cases hz : o = 0
    · subst hz
      by_cases htl : p.tokens.length < s.c.pageSize
      · have d0 := H2.out.pcell q _ HQ2.out 0 (by omega)
        have d3 := H2.out.pcell q _ HQ2.out 3 (by omega)
        rw [e3] at d0 d3
        have d0' : W.cell? ⟨P.pb, q * 4, none⟩ = some (.int .i64 p.start) := d0
        have d3' : W.cell? ⟨P.pb, q * 4 + 3, none⟩ = some (.int .i64 p.used) := d3
        have fz := H2.out.pages.frozen
        rw [e3] at fz
        have f0 := fz (q * 4)
        have f1 := fz (q * 4 + 1)
        have f2 := fz (q * 4 + 2)
        have f3 := fz (q * 4 + 3)
        clear d0 d3 fz
        go_quiet (fail)
        go_wp2_with fail
        go_roundw
        case rel =>
          obtain ⟨h3, st3⟩ := (H2.out.drewN nq).putPage q (by show q < ((backTo s r.holds k).pages.set q _).length; rw [List.length_set]; exact hql) 0 0 0 m
          rw [e3] at h3 st3
          refine HRD.out _ _ ?_ ⟨(Keeps.refl _ _).drewN nq |>.tr st3.keeps, st3.old, st3.sa, st3.rb, st3.pb, st3.ma⟩ rfl rfl
          rw [← backTo_succ s r.holds k q HX.out, HPP.out, HO.out, if_pos ⟨rfl, htl⟩]
          rw [set_setPage] at h3
          exact h3
        case measure => simp [intOf]; omega
      · go_quiet (fail)
        go_wp2_with fail
        go_roundw
        case rel =>
          refine HRD.out _ _ ?_ ⟨(Keeps.refl _ _).drewN nq, fun _ _ => rfl, rfl, fun _ _ => rfl, rfl, rfl⟩ rfl rfl
          rw [← backTo_succ s r.holds k q HX.out, HPP.out, HO.out, if_neg (fun h => htl h.2)]
          exact H2.out.drewN nq
        case measure => simp [intOf]; omega
    · have hz1 : (o == 0) = false := by simpa using hz
      go_quiet (fail)
      go_wp2_with fail
      go_roundw
      case rel =>
        refine HRD.out _ _ ?_ ⟨(Keeps.refl _ _).drewN nq, fun _ _ => rfl, rfl, fun _ _ => rfl, rfl, rfl⟩ rfl rfl
        rw [← backTo_succ s r.holds k q HX.out, HPP.out, HO.out, if_neg (fun h => hz h.1)]
        exact H2.out.drewN nq
      case measure => simp [intOf]; omega
  · obtain rfl : k = n := by omega
    have d7 := h1.rcell i r hir1 7
    have d8 := h1.rcell i r hir1 8
    have f7 := h1.rfree i hi' 7
    have f8 := h1.rfree i hi' 8
    rw [e2] at d7 d8 f7 f8
    have d7' : wr.cell? ⟨P.rb i, 7, none⟩ = some (P1.vhold i) := d7
    have d8' : wr.cell? ⟨P.rb i, 8, none⟩ = some (.int .i64 r.entries) := d8
    obtain ⟨h2, st2⟩ := h1.nilHolds i r hir1 m
    have hir2 : ((backTo s r.holds k).setReq i { r with holds := [] }).reqs[i]? = some { r with holds := [] } := List.getElem?_set_self hi'
    obtain ⟨h3, st3⟩ := h2.reqSame i 8 _ { r with holds := [], entries := 0 } hir2 rfl rfl rfl rfl (u := .int .i64 0) rfl m
    rw [set_setReq] at h3
    dsimp only at h3 st3
    rw [e2] at h3 st3 st2
    have H3 := Lib.hid h3
    have ST3 := Lib.hid st3
    have ST2 := Lib.hid st2
    clear d7 d8 h1 h2 h3 st2 st3 hir1 hir2 hi'
    go_wp2_with fail
    go_end0
    refine ⟨rfl, _, _, ?_, (st1.trans ST2.out (Nat.le_refl _)).trans ST3.out (Nat.le_refl _)⟩
    have e : s.giveBack i = (backTo s r.holds k).setReq i { r with holds := [], entries := 0 } := by
      unfold Srv.giveBack backTo Srv.setReq
      rw [HR.out, HN.out, List.take_length]
    rw [e]
    exact H3.out
end Go.Proofs.YtedkfehdfmimoaaGreat

namespace Go.Proofs.YtedkfehdfmimoaaGreat
open Go.RowKit

section
variable {w w' : World} {own own' : Nat → Slot} {P : Ptrs} {s : Srv}
/-- What lies in memory stays, if what turned was no part of the server. -/
theorem Rep.stay {S : Nat → Prop} (h : Rep w own P s) (k : Keeps S w w') (hs : ∀ g, S g → own g = .other) : Rep w' own P s := by
  have ho : ∀ g, g < w.heap.size → own g = own g := fun _ _ => rfl
  have hn : ∀ {sl : Slot}, sl ≠ .other → ∀ g, own g = sl → ¬ S g := fun hsl g e e' => hsl (e.symm.trans (hs g e'))
  exact ⟨k.blk h.server (hn (by intro h; cases h) _ h.oserver), h.oserver, h.map.keep (k.block _ h.map.lt (hn (by intro h; cases h) _ h.omap)), h.omap,
    fun i hi => (h.req i hi).step k ho fun g e => by rcases e with e | e | e | e <;> exact hn (by intro h; cases h) g e, k.blk h.pages (hn (by intro h; cases h) _ h.opages), h.opages,
    fun i hi => (h.page i hi).step k ho (hn (by intro h; cases h)), h.log.step k ho (hn (by intro h; cases h)), h.model.step k ho (hn (by intro h; cases h)), fun g hg => h.beyond g (Nat.le_trans k.size hg)⟩
theorem Step.stay {S : Nat → Prop} (k : Keeps S w w') (own : Nat → Slot) (P : Ptrs) (n : Nat) (hs : ∀ g, S g → own g ≠ .other) : Step w own P w' own P n := ⟨k.mono fun g _ hg => hs g hg, fun _ _ => rfl, rfl, fun _ _ => rfl, rfl, rfl⟩
theorem Step.fresh (k : Below w.heap.size w w') (own : Nat → Slot) (P : Ptrs) (n : Nat) : Step w own P w' own P n := ⟨Keeps.of_below k _, fun _ _ => rfl, rfl, fun _ _ => rfl, rfl, rfl⟩
theorem Step.drewN {w1 : World} {o1 : Nat → Slot} {P1 : Ptrs} {m : Nat} (h : Step w own P w1 o1 P1 m) (n : Nat) : Step w own P (w1.drewN n) o1 P1 m := ⟨h.keeps.drewN n, h.old, h.sa, h.rb, h.pb, h.ma⟩
theorem Step.tr {w1 w2 : World} {o1 o2 : Nat → Slot} {P1 P2 : Ptrs} {n : Nat} (h : Step w own P w1 o1 P1 n) (k : Step w1 o1 P1 w2 o2 P2 n) : Step w own P w2 o2 P2 n := h.trans k (Nat.le_refl _)
theorem Rep.scell (h : Rep w own P s) (j : Nat) : w.cell? ⟨P.sa, j, none⟩ = (serverCells P s)[j]? := h.server.cell j
theorem Rep.sfree (h : Rep w own P s) (j : Nat) : w.frozen? ⟨P.sa, j, none⟩ = false := h.server.frozen j
end

set_option maxHeartbeats 400000 in
theorem end_any (w : World) (own : Nat → Slot) (P : Ptrs) (s : Srv) (h : Rep w own P s) (i : Nat) (hi : i < s.reqs.length) (hh : ∀ k ∈ (s.req i).holds, 0 ≤ k ∧ k < (s.pages.length : Int)) (e : Int) (m : Nat) (hm : i < m) :
    Calls Tryz.prog 36 #[.pointer (some ⟨P.sa, 0, none⟩), .pointer (some ⟨P.rb i, 0, none⟩), .int .i64 e] w fun e' w' => e' = .returned (.tuple #[]) ∧ ∃ own' P', Rep w' own' P' (s.end_ i e) ∧ Step w own P w' own' P' m := by
  have hg := giveBack_any w own P s h i hi hh m
  have HG := Lib.hid hg
  have HI := Lib.hid hi
  have HM := Lib.hid hm
  clear hg hh h hi hm
  go_enter Tryz.func36, Tryz.ntmps36
  go_wp2_with fail
  refine HG.out.mono ?_
  rintro e' w1 ⟨rfl, own1, P1, h1, st1⟩
  have hi1 : i < (s.giveBack i).reqs.length := by show i < (s.reqs.set i _).length; rw [List.length_set]; exact HI.out
  have hir : (s.giveBack i).reqs[i]? = some { s.req i with holds := [], entries := 0 } := List.getElem?_set_self HI.out
  have e2 := st1.rb i HM.out
  have d9 := h1.rcell i _ hir 9
  have d10 := h1.rcell i _ hir 10
  have d11 := h1.rcell i _ hir 11
  have f9 := h1.rfree i hi1 9
  have f10 := h1.rfree i hi1 10
  have f11 := h1.rfree i hi1 11
  rw [e2] at d9 d10 d11 f9 f10 f11
  obtain ⟨a1, a2⟩ := h1.reqSame i 9 _ { s.req i with holds := [], entries := 0, ended := true } hir rfl rfl rfl rfl (u := .bool true) rfl m
  have g1 : ((s.giveBack i).setReq i { s.req i with holds := [], entries := 0, ended := true }).reqs[i]? = some { s.req i with holds := [], entries := 0, ended := true } := List.getElem?_set_self hi1
  obtain ⟨b1, b2⟩ := a1.reqSame i 10 _ { s.req i with holds := [], entries := 0, ended := true, err := e } g1 rfl rfl rfl rfl (u := .int .i64 e) rfl m
  rw [set_setReq] at b1
  have g2 : ((s.giveBack i).setReq i { s.req i with holds := [], entries := 0, ended := true, err := e }).reqs[i]? = some { s.req i with holds := [], entries := 0, ended := true, err := e } := List.getElem?_set_self hi1
  obtain ⟨c1, c2⟩ := b1.reqSame i 11 _ { s.req i with holds := [], entries := 0, ended := true, err := e, kept := -1 } g2 rfl rfl rfl rfl (u := .int .i64 (-1)) rfl m
  rw [set_setReq] at c1
  rw [e2] at c1 c2 a2 b2
  have C1 := Lib.hid c1
  have ST := Lib.hid ((a2.tr b2).tr c2)
  have d9' : w1.cell? ⟨P.rb i, 9, none⟩ = some (.bool (s.req i).ended) := d9
  have d10' : w1.cell? ⟨P.rb i, 10, none⟩ = some (.int .i64 (s.req i).err) := d10
  have d11' : w1.cell? ⟨P.rb i, 11, none⟩ = some (.int .i64 (s.req i).kept) := d11
  clear a1 b1 c1 a2 b2 c2 g1 g2 hir hi1 h1 d9 d10 d11 e2
  go_wp2_with fail
  go_end0
  exact ⟨rfl, _, _, C1.out, st1.tr ST.out⟩

/-- 'range' over the server's map under way. -/
def MapLeft (w : World) (b r : Nat) (m : List (Int × Nat)) (left : Int → Bool) (cnt : Nat) : Prop :=
  ∃ (D : DataW Unit) (F : Lit → Bool), w.ranges Tryz.prog 3 ReqR b r m.length D F cnt ∧ (∀ x : Int, F (.int .i64 x) = left x) ∧ (∀ kl, F kl = true → Maps.has D kl = true) ∧
    (∀ k : Int, D.atKey (.int .i64 k) (.lit (.int .i64 (-1))) = .lit (.int .i64 (match m.lookup k with | some g => (g : Int) | none => -1))) ∧ (∀ kl, Maps.has D kl = true → ∃ p ∈ m, kl = .int .i64 p.1)
section
variable {w w' : World} {b r : Nat} {m : List (Int × Nat)} {left : Int → Bool} {cnt : Nat}
theorem MapLeft.left_eq (h : MapLeft w b r m left cnt) : w.rangeLeft b r = cnt := by
  obtain ⟨D, F, h, -⟩ := h
  exact h.left_eq
theorem MapLeft.keep (h : MapLeft w b r m left cnt) (hb : w'.heap[b]? = w.heap[b]?) (hr : w'.heap[r]? = w.heap[r]?) : MapLeft w' b r m left cnt := by
  obtain ⟨D, F, ⟨es, clock, since, seen, c0, h1, h2, h3, h4, h5, h6⟩, h⟩ := h
  exact ⟨D, F, ⟨es, clock, since, seen, c0, hb.trans h1, h2, h3, h4, hr.trans h5, h6⟩, h⟩
theorem MapLeft.lt (h : MapLeft w b r m left cnt) : r < w.heap.size := by
  obtain ⟨D, F, h, -⟩ := h
  exact h.lt
theorem MapLeft.drewN (h : MapLeft w b r m left cnt) (n : Nat) : MapLeft (w.drewN n) b r m left cnt := h.keep rfl rfl
theorem MapLeft.drew (h : MapLeft w b r m left cnt) : MapLeft w.drew b r m left cnt := h.keep rfl rfl
theorem lookup_isSome {m : List (Int × Nat)} {x : Int} (h : ∃ p ∈ m, p.1 = x) : ∃ g, m.lookup x = some g := by
  induction m with
  | nil => obtain ⟨p, hp, -⟩ := h; cases hp
  | cons q m ih =>
    by_cases e : x = q.1
    · subst e
      exact ⟨q.2, by simp [List.lookup]⟩
    · obtain ⟨p, hp, rfl⟩ := h
      rcases List.mem_cons.1 hp with rfl | hp
      · exact absurd rfl e
      · obtain ⟨g, hg⟩ := ih ⟨p, hp, rfl⟩
        exact ⟨g, by simp [List.lookup, show (p.1 == q.1) = false by simpa using e, hg]⟩
theorem lookup_mem {m : List (Int × Nat)} {x : Int} {g : Nat} (h : m.lookup x = some g) : (x, g) ∈ m := by
  induction m with
  | nil => cases h
  | cons q m ih =>
    simp only [List.lookup] at h
    by_cases e : x = q.1
    · subst e
      simp at h
      subst h
      exact List.mem_cons_self
    · rw [show (x == q.1) = false by simpa using e] at h
      exact List.mem_cons_of_mem _ (ih h)
theorem wpList_range_map {ops : Array Oper} {rest : List Oper} {o : Oper} {a : Act} {Q : Exit → Act → World → Prop} (h : MapIs w b m) (hg : o.guard = none) (mo : Operand) (hop : o.op = Op.range 67 mo) (hm : a.eval mo = .map (some b))
    (hK : ∀ w' cnt, MapLeft w' b w.heap.size m (fun x => (m.lookup x).isSome) cnt → w.grownBy w' none → w'.heap.size = w.heap.size + 1 → wpList Tryz.prog ops Q rest (a.put o.dst (.pointer (some ⟨w.heap.size, 0, none⟩))) w') :
    wpList Tryz.prog ops Q (o :: rest) a w := by
  obtain ⟨D, h1, h2, h3, h4⟩ := h
  refine wpList_range_own w hg mo _ hop 3 73 intKeyed Tryz.underlying67 ReqR b m.length D hm h1 fun w' r1 r2 r3 => hK w' _ ⟨D, _, r1, fun x => ?_, fun kl h => h, h2, h3⟩ r2 r3
  show Maps.has D _ = (m.lookup x).isSome
  cases hl : m.lookup x with
  | some g => simpa using h4 _ (lookup_mem hl)
  | none =>
    cases hd : Maps.has D (.int .i64 x) with
    | false => rfl
    | true =>
      obtain ⟨p, hp, e⟩ := h3 _ hd
      injection e with _ e
      obtain ⟨g, hg'⟩ := lookup_isSome ⟨p, hp, e.symm⟩
      rw [hl] at hg'
      cases hg'
theorem wpList_next_map {ops : Array Oper} {rest : List Oper} {o : Oper} {a : Act} {Q : Exit → Act → World → Prop} (h : MapLeft w b r m left cnt) (hg : o.guard = none) (it : Operand) (hop : o.op = Op.next it false) (hit : a.eval it = .pointer (some ⟨r, 0, none⟩))
    (hDone : (∀ x, left x = false) → wpList Tryz.prog ops Q rest (a.put o.dst (.tuple #[.bool false])) w)
    (hMore : ∀ (x : Int) (g : Nat) (w' : World) (cnt' : Nat), left x = true → m.lookup x = some g → MapLeft w' b r m (fun z => left z && !decide (z = x)) cnt' → cnt' < cnt → w.grownBy w' (some r) → w'.heap.size = w.heap.size →
      (Instr.entry (.pointer (some ⟨r, 0, none⟩))).run Tryz.prog w' = .ok (.tuple #[.int .i64 x, .pointer (some ⟨g, 0, none⟩)]) w' → wpList Tryz.prog ops Q rest (a.put o.dst (.tuple #[.bool true, .int .i64 x, .pointer (some ⟨g, 0, none⟩)])) w') :
    wpList Tryz.prog ops Q (o :: rest) a w := by
  obtain ⟨D, F, h1, h2, h3, h4, h5⟩ := h
  refine wpList_next_ranges (α := Int) (β := Option Nat) w hg it hop 3 intKeyed ReqR (Value.int .i64) (fun v => .pointer (v.map fun g => ⟨g, 0, none⟩)) (fun key kl hkey => by obtain ⟨x, rfl, _⟩ := Maps.keyOf_int_inv Tryz.underlying3 hkey; exact ⟨x, rfl⟩) (fun v y hv => ?_)
    b r m.length D F cnt hit h1 (fun _ hl => hDone fun x => (h2 x).symm.trans (hl _)) fun x c kl y w' cnt' hkey hlk hv hat hrg hlt hgr hsz hen => ?_
  · unfold ReqR at hv
    split at hv
    · exact ⟨none, rfl⟩
    · exact ⟨some _, rfl⟩
    · cases hv
  · obtain ⟨x', ex, rfl, hwx⟩ := Maps.keyOf_int_inv Tryz.underlying3 hkey
    injection ex with _ ex
    subst ex
    obtain ⟨p, hp, e⟩ := h5 _ (h3 _ hlk)
    injection e with _ e
    obtain ⟨g, hg'⟩ := lookup_isSome ⟨p, hp, e.symm⟩
    have hy := (h4 x).symm.trans (hat (.lit (.int .i64 (-1))))
    rw [hg'] at hy
    dsimp only at hy
    have hc : c = some g := by
      cases c with
      | none =>
        have hv' : some ((DataW.lit (.int .i64 (-1)) : DataW Unit), ([] : List MemPlace)) = some y := hv
        obtain rfl := Option.some.inj hv'
        have hy' : DataW.lit (H := Unit) (.int .i64 (g : Int)) = .lit (.int .i64 (-1)) := hy
        have hy2 := (Lit.int.inj (DataW.lit.inj hy')).2
        omega
      | some g' =>
        have hv' : some ((DataW.lit (.int .i64 (g' : Int)) : DataW Unit), ([] : List MemPlace)) = some y := hv
        obtain rfl := Option.some.inj hv'
        have hy' : DataW.lit (H := Unit) (.int .i64 (g : Int)) = .lit (.int .i64 (g' : Int)) := hy
        have hy2 := (Lit.int.inj (DataW.lit.inj hy')).2
        have : g = g' := by omega
        rw [this]
    subst hc
    refine hMore x g w' cnt' ((h2 x).symm.trans hlk) hg' ⟨D, _, hrg, fun z => ?_, fun kl hkl => h3 kl (by simp at hkl; exact hkl.1), h4, h5⟩ hlt hgr hsz hen
    show (F (.int .i64 z) && !Lit.sameKey (.int .i64 z) (.int .i64 x)) = (left z && !decide (z = x))
    have e : Lit.sameKey (.int .i64 z) (.int .i64 x) = decide (z = x) := by
      by_cases e : z = x
      · subst e; simp [Lit.sameKey]
      · simp [Lit.sameKey, e]
    rw [h2 z, e]

end
end Go.Proofs.YtedkfehdfmimoaaGreat

namespace Go.Proofs.YtedkfehdfmimoaaGreat
open Go.RowKit

/-- the pairs of the server's map -/
def idMap (P : Ptrs) (s : Srv) : List (Int × Nat) := (s.reqs.zipIdx).map fun x => (x.1.id, P.rb x.2)
def Srv.Distinct (s : Srv) : Prop := ∀ i j, i < s.reqs.length → j < s.reqs.length → (s.req i).id = (s.req j).id → i = j
theorem idMap_mem {P : Ptrs} {s : Srv} {x : Int} {g : Nat} (h : (x, g) ∈ idMap P s) : ∃ i, i < s.reqs.length ∧ (s.req i).id = x ∧ P.rb i = g := by
  unfold idMap at h
  obtain ⟨⟨r, i⟩, hm, he⟩ := List.mem_map.1 h
  rw [List.mem_zipIdx_iff_getElem?] at hm
  obtain ⟨hl, hr⟩ := List.getElem?_eq_some_iff.1 hm
  injection he with e1 e2
  refine ⟨i, hl, ?_, e2⟩
  have := s.req_get i hl
  rw [hm] at this
  injection this with this
  rw [← this]; exact e1
theorem idMap_look {P : Ptrs} {s : Srv} {i : Nat} (hi : i < s.reqs.length) (hd : s.Distinct) : (idMap P s).lookup (s.req i).id = some (P.rb i) := by
  have hm : ((s.req i).id, P.rb i) ∈ idMap P s := by
    unfold idMap
    refine List.mem_map.2 ⟨(s.req i, i), ?_, rfl⟩
    rw [List.mem_zipIdx_iff_getElem?]
    exact s.req_get i hi
  obtain ⟨g, hg⟩ := lookup_isSome ⟨_, hm, rfl⟩
  obtain ⟨j, hj, e1, e2⟩ := idMap_mem (lookup_mem hg)
  have := hd j i hj hi e1
  subst this
  rw [e2]; exact hg
theorem idMap_none {P : Ptrs} {s : Srv} {x : Int} (h : ∀ i, i < s.reqs.length → (s.req i).id ≠ x) : (idMap P s).lookup x = none := by
  cases hl : (idMap P s).lookup x with
  | none => rfl
  | some g =>
    obtain ⟨i, hi, e, -⟩ := idMap_mem (lookup_mem hl)
    exact absurd e (h i hi)

def settleSome (n : Nat) (left : Int → Bool) (l : List Req) : List Req := l.map fun r => if left r.id then r else settleReq n r
def Srv.settleS (s : Srv) (left : Int → Bool) : Srv := { s with reqs := settleSome s.log.length left s.reqs }
theorem settleReq_id (n : Nat) (r : Req) : (settleReq n r).id = r.id := by unfold settleReq; split <;> rfl
theorem settleS_length (s : Srv) (left : Int → Bool) : (s.settleS left).reqs.length = s.reqs.length := by simp [Srv.settleS, settleSome]
theorem settleS_req (s : Srv) (left : Int → Bool) (i : Nat) (hi : i < s.reqs.length) : (s.settleS left).reqs[i]? = some (if left (s.req i).id then s.req i else settleReq s.log.length (s.req i)) := by
  simp only [Srv.settleS, settleSome, List.getElem?_map, s.req_get i hi, Option.map_some]
theorem settleS_idMap (P : Ptrs) (s : Srv) (left : Int → Bool) : idMap P (s.settleS left) = idMap P s := by
  unfold idMap
  apply List.ext_getElem?
  intro j
  simp only [List.getElem?_map, List.getElem?_zipIdx, Srv.settleS, settleSome]
  cases s.reqs[j]? with
  | none => rfl
  | some r =>
    simp only [Option.map_some, Option.some.injEq, Prod.mk.injEq, and_true]
    split
    · rfl
    · exact settleReq_id _ _
theorem settleS_start (s : Srv) (left : Int → Bool) (h : ∀ i, i < s.reqs.length → left (s.req i).id = true) : s.settleS left = s := by
  have : settleSome s.log.length left s.reqs = s.reqs := by
    unfold settleSome
    apply List.ext_getElem?
    intro j
    rw [List.getElem?_map]
    by_cases hj : j < s.reqs.length
    · rw [s.req_get j hj, Option.map_some, if_pos (h j hj)]
    · rw [List.getElem?_eq_none (by omega)]; rfl
  unfold Srv.settleS
  rw [this]
theorem settleS_end (s : Srv) (left : Int → Bool) (h : ∀ x, left x = false) : s.settleS left = s.settle := by
  unfold Srv.settleS Srv.settle settleSome
  congr 1
  apply List.map_congr_left
  intro r _
  rw [h]; rfl
theorem settleS_step (s : Srv) (left : Int → Bool) (i : Nat) (hi : i < s.reqs.length) (hd : s.Distinct) :
    (s.settleS left).setReq i (settleReq s.log.length (s.req i)) = s.settleS (fun z => left z && !decide (z = (s.req i).id)) := by
  have : (settleSome s.log.length left s.reqs).set i (settleReq s.log.length (s.req i)) = settleSome s.log.length (fun z => left z && !decide (z = (s.req i).id)) s.reqs := by
    apply List.ext_getElem?
    intro j
    rw [List.getElem?_set]
    unfold settleSome
    simp only [List.length_map, List.getElem?_map]
    by_cases e : i = j
    · subst e
      rw [if_pos rfl, if_pos hi, s.req_get i hi]
      simp
    · rw [if_neg e]
      by_cases hj : j < s.reqs.length
      · rw [s.req_get j hj]
        simp only [Option.map_some]
        have hne : (s.req j).id ≠ (s.req i).id := fun h => e (hd i j hi hj h.symm)
        simp [hne]
      · rw [List.getElem?_eq_none (by omega)]; rfl
  unfold Srv.settleS Srv.setReq
  dsimp only
  rw [this]

set_option maxRecDepth 100000 in
set_option maxHeartbeats 1000000 in
theorem settle_any (w : World) (own : Nat → Slot) (P : Ptrs) (s : Srv) (h : Rep w own P s) (hd : s.Distinct) (m : Nat) :
    Calls Tryz.prog 38 #[.pointer (some ⟨P.sa, 0, none⟩)] w fun e w' => e = .returned (.tuple #[]) ∧ Rep w' own P s.settle ∧ Step w own P w' own P m := by
  have c17 : w.cell? ⟨P.sa, 17, none⟩ = some (.map (some P.ma)) := h.scell 17
  obtain ⟨Al, cl, hvl, -, -⟩ := h.log.shape
  have hr0 : own w.heap.size = .other := h.beyond _ (Nat.le_refl _)
  have hmap : MapIs w P.ma (idMap P s) := h.map
  have H0 := Lib.hid h
  have HD := Lib.hid hd
  have HVL := Lib.hid hvl
  clear h hd hvl
  go_enter Tryz.func38, Tryz.ntmps38
  go_wp2_with (first | (at_range; refine wpList_range_map hmap rfl _ rfl rfl ?_; intro w0 cnt0 hl0 hg0 hs0) | go_in)
  go_frame
  have hstart : Rep w0 own P (s.settleS fun x => ((idMap P s).lookup x).isSome) := by
    rw [settleS_start _ _ fun i hi => by rw [idMap_look hi HD.out]; rfl]
    exact H0.out.stay (S := fun _ => False) ((Keeps.refl _ w).grown hg0 (fun g e => by cases e)) (fun _ => False.elim)
  have hst0 : Step w own P w0 own P m := Step.stay (S := fun _ => False) ((Keeps.refl _ w).grown hg0 (fun g e => by cases e)) own P m (fun _ => False.elim)
  go_loopw [3] (fun _ wr => ∃ left cnt, MapLeft wr P.ma w.heap.size (idMap P s) left cnt ∧ Rep wr own P (s.settleS left) ∧ Step w own P wr own P m) (fun _ wr => wr.rangeLeft P.ma w.heap.size)
  case atStart => exact ⟨_, _, hl0, hstart, hst0⟩
  obtain ⟨left, cnt, hl, h1, st1⟩ := hrel
  have HL := Lib.hid hl
  have H1 := Lib.hid h1
  have ST := Lib.hid st1
  clear hl0 hg0 hs0 hstart hst0 hl h1 st1 hmap c17
  go_wp2_with (first
    | (at_next; refine wpList_next_map HL.out rfl _ rfl rfl ?_ ?_)
    | go_in)
  · intro hdone
    have HDN := Lib.hid hdone
    clear hdone
    go_wp2_with fail
    go_end0
    exact ⟨rfl, by rw [← settleS_end s left HDN.out]; exact H1.out, ST.out⟩
  · intro x g w2 cnt2 hx hg hl2 hlt2 hg2 hs2 hen
    obtain ⟨i, hi, rfl, rfl⟩ := idMap_mem (lookup_mem hg)
    have kk : Keeps (· = w.heap.size) wr w2 := (Keeps.refl _ wr).grown hg2 fun k e _ => by injection e with e; exact e.symm
    have h2 := H1.out.stay kk fun g e => e ▸ hr0
    have st2 : Step w own P w2 own P m := ⟨ST.out.keeps.trans (kk.mono fun g _ e => e) (S' := (· = w.heap.size)) (fun g hg e => absurd hg (by rw [e]; exact Nat.lt_irrefl _)), fun _ _ => rfl, rfl, fun _ _ => rfl, rfl, rfl⟩
    have hir := settleS_req s left i hi
    rw [if_pos hx] at hir
    have hi2 : i < (s.settleS left).reqs.length := by rw [settleS_length]; exact hi
    have c11 := h2.rcell i _ hir 11
    have f11 := h2.rfree i hi2 11
    have c19 : w2.cell? ⟨P.sa, 19, none⟩ = some (.slice Al s.log.length cl) := by rw [← HVL.out]; exact h2.scell 19
    obtain ⟨kp, hkp⟩ : ∃ kp, kp = (s.req i).kept := ⟨_, rfl⟩
    have c11' : w2.cell? ⟨P.rb i, 11, none⟩ = some (.int .i64 kp) := by rw [hkp]; exact c11
    have hrb := (h2.req i hi2).oreq
    have HKP := Lib.hid hkp
    have HX := Lib.hid hx
    have HIR := Lib.hid hir
    have HI := Lib.hid hi
    have H2 := Lib.hid h2
    have ST2 := Lib.hid st2
    have HRB := Lib.hid hrb
    have HL2 := Lib.hid hl2
    have hlt2' : cnt2 < cnt := hlt2
    clear c11 hkp hx hir hi h2 st2 hrb kk hg hg2 hs2 hl2
    by_cases hneg : kp < 0
    · go_wp2_with fail
      go_roundw
      case rel =>
        obtain ⟨h3, st3⟩ := H2.out.reqSame i 11 _ { s.req i with kept := s.log.length } HIR.out rfl rfl rfl rfl (u := .int .i64 s.log.length) rfl m
        have e := settleS_step s left i HI.out HD.out
        rw [show settleReq s.log.length (s.req i) = { s.req i with kept := s.log.length } from if_pos (by rw [← HKP.out]; exact hneg)] at e
        rw [e] at h3
        refine ⟨_, cnt2, HL2.out.keep ?_ ?_, h3, ST2.out.tr st3⟩
        · exact Below.heap_setCell _ _ _ _ (fun h => by have := H2.out.omap; rw [h, HRB.out] at this; cases this)
        · exact Below.heap_setCell _ _ _ _ (fun h => by have := hr0; rw [h, HRB.out] at this; cases this)
      case measure =>
        rw [HL.out.left_eq]
        have : (w2.setCell ⟨P.rb i, 11, none⟩ (.int .i64 s.log.length)).rangeLeft P.ma w.heap.size = cnt2 := by
          refine MapLeft.left_eq (HL2.out.keep ?_ ?_)
          · exact Below.heap_setCell _ _ _ _ (fun h => by have := H2.out.omap; rw [h, HRB.out] at this; cases this)
          · exact Below.heap_setCell _ _ _ _ (fun h => by have := hr0; rw [h, HRB.out] at this; cases this)
        rw [this]; exact hlt2'
    · go_wp2_with fail
      go_roundw
      case rel =>
        have e := settleS_step s left i HI.out HD.out
        rw [show settleReq s.log.length (s.req i) = s.req i from if_neg (by rw [← HKP.out]; exact hneg)] at e
        have e2 : (s.settleS left).setReq i (s.req i) = s.settleS left := by
          have : (s.settleS left).reqs.set i (s.req i) = (s.settleS left).reqs := by
            obtain ⟨a, b⟩ := List.getElem?_eq_some_iff.1 HIR.out
            rw [← b, List.set_getElem_self]
          unfold Srv.setReq
          rw [this]
        rw [e2] at e
        exact ⟨_, cnt2, HL2.out, by rw [← e]; exact H2.out, ST2.out⟩
      case measure => rw [HL.out.left_eq, HL2.out.left_eq]; exact hlt2'

set_option maxHeartbeats 400000 in
theorem told_any (w : World) (own : Nat → Slot) (P : Ptrs) (s : Srv) (h : Rep w own P s) (i : Nat) (hi : i < s.reqs.length) :
    Calls Tryz.prog 39 #[.pointer (some ⟨P.sa, 0, none⟩), .pointer (some ⟨P.rb i, 0, none⟩)] w fun e w' => e = .returned (.bool (s.told (s.req i))) ∧ ∃ n, w' = w.drewN n := by
  have hir := s.req_get i hi
  have c9 : w.cell? ⟨P.rb i, 9, none⟩ = some (.bool (s.req i).ended) := h.rcell i _ hir 9
  have c11 : w.cell? ⟨P.rb i, 11, none⟩ = some (.int .i64 (s.req i).kept) := h.rcell i _ hir 11
  have c21 : w.cell? ⟨P.sa, 21, none⟩ = some (.int .i64 s.synced) := h.scell 21
  have c22 : w.cell? ⟨P.sa, 22, none⟩ = some (.bool s.replay) := h.scell 22
  have HT : Hid (s.told (s.req i) = ((s.req i).ended && (s.replay || decide ((s.req i).kept ≤ s.synced)))) := Lib.hid rfl
  generalize s.told (s.req i) = t at *
  generalize (s.req i).ended = b1 at *
  generalize (s.req i).kept = kp at *
  generalize s.replay = b2 at *
  clear hir h
  cases b1
  · go_enter Tryz.func39, Tryz.ntmps39
    go_wp2_with fail
    go_quiet (fail)
    go_wp2_with fail
    go_ret
    exact ⟨by rw [HT.out]; rfl, _, rfl⟩
  · cases b2
    · go_enter Tryz.func39, Tryz.ntmps39
      go_wp2_with fail
      go_quiet (fail)
      go_wp2_with fail
      go_ret
      exact ⟨by rw [HT.out]; simp, _, rfl⟩
    · go_enter Tryz.func39, Tryz.ntmps39
      go_wp2_with fail
      go_quiet (fail)
      go_wp2_with fail
      go_ret
      exact ⟨by rw [HT.out]; rfl, _, rfl⟩
end Go.Proofs.YtedkfehdfmimoaaGreat

namespace Go.Proofs.YtedkfehdfmimoaaGreat
open Go.RowKit

section
set_option maxRecDepth 100000 in
set_option maxHeartbeats 1000000 in
/-- insertionSortCmpFunc over a row of the caller's own. -/
theorem ins_reqs (rb : Nat → Nat) (w : World) (T : Nat → Prop) (g cap n : Nat) (xs : List Nat) (h : Own w T 73 1 (.slice (some ⟨g, 0, none⟩) n cap) n (xs.map fun z => .pointer (some ⟨rb z, 0, none⟩))) (hn : n ≤ 1000000) (cs : Array Value)
    (cf : Nat → Nat → Int) (Inv : World → Prop) (h0 : Inv w)
    (hI1 : ∀ W W', Inv W → Below W.heap.size W W' → Inv W') (hI2 : ∀ W j u, Inv W → Inv (W.setCell ⟨g, j, none⟩ u))
    (hcmp : ∀ W x y, Inv W → x ∈ xs → y ∈ xs → Calls Tryz.prog 66 (#[.pointer (some ⟨rb x, 0, none⟩), .pointer (some ⟨rb y, 0, none⟩)] ++ cs) W fun e W' => e = .returned (.int .i64 (cf x y)) ∧ Below W.heap.size W W') :
    Calls Tryz.prog 105 #[.slice (some ⟨g, 0, none⟩) n cap, .int .i64 0, .int .i64 n, .func (.func 66) #[] cs] w fun e w' => e = .returned (.tuple #[]) ∧
      Own w' T 73 1 (.slice (some ⟨g, 0, none⟩) n cap) n ((isort (fun a b => decide (cf a b < 0)) xs).map fun z => .pointer (some ⟨rb z, 0, none⟩)) ∧ Keeps (· = g) w w' ∧ Inv w' := by
  have hlen : xs.length = n := by have := h.length; simp at this; omega
  have HL := Lib.hid hlen
  have HC := Lib.hid hcmp
  have H1 := Lib.hid hI1
  have H2 := Lib.hid hI2
  have hgT : g < w.heap.size := h.lt rfl
  clear hlen hcmp hI1 hI2
  go_enter Tryz.func105, Tryz.ntmps105
  go_wp2_with fail
  go_loopw [8] (fun i wr => ∃ k : Nat, 1 ≤ k ∧ (k ≤ n ∨ k = 1) ∧ i = .int .i64 k ∧ Own wr T 73 1 (.slice (some ⟨g, 0, none⟩) n cap) n ((isortTo (fun a b => decide (cf a b < 0)) xs k).map fun z => .pointer (some ⟨rb z, 0, none⟩)) ∧ Keeps (· = g) w wr ∧ Inv wr) (fun i _ => n - (intOf i).toNat)
  case atStart => exact ⟨1, by omega, .inr rfl, rfl, h, Keeps.refl _ _, h0⟩
  obtain ⟨k, hk1, hk2, rfl, ho, hkp, hi⟩ := hrel
  by_cases hlt : k < n
  · go_wp2_with fail
    obtain ⟨wo, rfl⟩ : ∃ wo : World, wo = wr := ⟨_, rfl⟩
    go_loopw [9] (fun j wr => ∃ (m : Nat) (D : List Nat), m ≤ k ∧ j = .int .i64 m ∧ Own wr T 73 1 (.slice (some ⟨g, 0, none⟩) n cap) n (D.map fun z => .pointer (some ⟨rb z, 0, none⟩)) ∧ (∀ x ∈ D, x ∈ xs) ∧ Hid (insDown (fun a b => decide (cf a b < 0)) m D = isortTo (fun a b => decide (cf a b < 0)) xs (k + 1)) ∧ Keeps (· = g) w wr ∧ Inv wr) (fun j _ => (intOf j).toNat)
    case atStart => exact ⟨k, _, Nat.le_refl _, rfl, ho, isortTo_mem _ _ _, by show _ = _; rw [isortTo], hkp, hi⟩
    obtain ⟨m, D, hm, rfl, ho2, hD, HD, hkp2, hi2⟩ := hrel
    have HDm := Lib.hid hD
    clear hD
    cases m with
    | zero =>
      go_wp2_with fail
      go_quiet (fail)
      go_wp2_with fail
      go_roundw
      case rel =>
        have e := HD.out
        simp only [insDown] at e
        exact ⟨k + 1, by omega, .inl (by omega), by go_num, e ▸ ho2.drewN _, hkp2.drewN _, H1.out _ _ hi2 ⟨rfl, rfl, rfl, Nat.le_refl _, fun _ _ => rfl⟩⟩
      case measure => simp [intOf]; omega
    | succ m =>
      have hDl : D.length = n := by have := ho2.length; simp at this; omega
      have hc1 := ho2.get (m + 1) (by omega)
      have hc0 := ho2.get m (by omega)
      have hgr : g < wr.heap.size := ho2.lt rfl
      obtain ⟨x1, hx1⟩ : ∃ x1, D[m + 1]? = some x1 := ⟨_, List.getElem?_eq_getElem (by omega)⟩
      obtain ⟨x0, hx0⟩ : ∃ x0, D[m]? = some x0 := ⟨_, List.getElem?_eq_getElem (by omega)⟩
      rw [List.getElem?_map, hx1] at hc1
      rw [List.getElem?_map, hx0] at hc0
      simp only [Option.map_some] at hc1 hc0
      have m1 := HDm.out _ (List.mem_of_getElem? hx1)
      have m0 := HDm.out _ (List.mem_of_getElem? hx0)
      have HX1 := Lib.hid hx1
      have HX0 := Lib.hid hx0
      clear hx1 hx0 hDl
      have HS := fun W => HC.out W x1 x0
      have HK := Lib.hid (fun W hW => HS W hW m1 m0)
      clear HS m1 m0
      have b1 : (0 : Int) ≤ (m : Int) + 1 := by omega
      have b2 : (m : Int) + 1 < n := by omega
      have b3 : (0 : Int) ≤ m := by omega
      have b4 : (m : Int) < n := by omega
      have b5 : IntKind.i64.wrap ((m : Int) + 1 - 1) = m := by rw [IntKind.wrap_i64]; omega
      have b6 : IntKind.i64.wrap (m : Int) = m := by rw [IntKind.wrap_i64]; omega
      by_cases hless : cf x1 x0 < 0
      · go_wp2_with fail
        go_region_held3 (fun w' => w'.cell? ⟨g, m + 1, none⟩ = some (.pointer (some ⟨rb x1, 0, none⟩)) ∧ w'.cell? ⟨g, m, none⟩ = some (.pointer (some ⟨rb x0, 0, none⟩))) (go_keep) ((go_at_call 66; refine (HK.out _ (H1.out wr wr.drew hi2 ⟨rfl, rfl, rfl, Nat.le_refl _, fun _ _ => rfl⟩)).mono ?_; rintro e W1 ⟨rfl, hbW⟩; have e1 := hbW.cell (p := ⟨g, m + 1, none⟩) hgr; have e0 := hbW.cell (p := ⟨g, m, none⟩) hgr))
        have ho3 := ho2.drew.fresh hbW
        have hkp3 := hkp2.drew.fresh hbW
        have hi3 := H1.out _ _ (H1.out wr wr.drew hi2 ⟨rfl, rfl, rfl, Nat.le_refl _, fun _ _ => rfl⟩) hbW
        have hf1 := ho3.unfrozen (m + 1)
        have hf0 := ho3.unfrozen m
        have d1 : W1.cell? ⟨g, m + 1, none⟩ = some (.pointer (some ⟨rb x1, 0, none⟩)) := by rw [e1]; exact hc1
        have d0 : W1.cell? ⟨g, m, none⟩ = some (.pointer (some ⟨rb x0, 0, none⟩)) := by rw [e0]; exact hc0
        clear hc1 hc0 e1 e0 hbW
        go_wp2_with fail
        go_region
        go_wp2_with fail
        go_roundw
        case rel =>
          refine ⟨m, (D.set (m + 1) x0).set m x1, by omega, rfl, ?_, fun x hx => HDm.out x (mem_swap HX1.out HX0.out x hx), ?_, (Keeps.setCell (Keeps.setCell hkp3 (fun _ => rfl) _) (fun _ => rfl) _).drew, H1.out _ _ (H2.out _ _ _ (H2.out _ _ _ hi3)) ⟨rfl, rfl, rfl, Nat.le_refl _, fun _ _ => rfl⟩⟩
          · have := ((ho3.set (m + 1) (by omega) (.pointer (some ⟨rb x0, 0, none⟩))).set m (by omega) (.pointer (some ⟨rb x1, 0, none⟩))).drew
            simpa [List.map_set] using this
          · show _ = _
            rw [← HD.out, insDown_go _ m D x1 x0 HX1.out HX0.out (by simpa using hless)]
        case measure => simp [intOf]
      · go_wp2_with fail
        go_region_held3 (fun w' => w'.cell? ⟨g, m + 1, none⟩ = some (.pointer (some ⟨rb x1, 0, none⟩)) ∧ w'.cell? ⟨g, m, none⟩ = some (.pointer (some ⟨rb x0, 0, none⟩))) (go_keep) ((go_at_call 66; refine (HK.out _ (H1.out wr wr.drew hi2 ⟨rfl, rfl, rfl, Nat.le_refl _, fun _ _ => rfl⟩)).mono ?_; rintro e W1 ⟨rfl, hbW⟩; have e1 := hbW.cell (p := ⟨g, m + 1, none⟩) hgr; have e0 := hbW.cell (p := ⟨g, m, none⟩) hgr))
        have ho3 := ho2.drew.fresh hbW
        have hkp3 := hkp2.drew.fresh hbW
        have hi3 := H1.out _ _ (H1.out wr wr.drew hi2 ⟨rfl, rfl, rfl, Nat.le_refl _, fun _ _ => rfl⟩) hbW
        clear hc1 hc0 e1 e0 hbW
        go_wp2_with fail
        go_roundw
        case rel =>
          have e := HD.out
          rw [insDown_stop _ m D x1 x0 HX1.out HX0.out (by simpa using hless)] at e
          exact ⟨k + 1, by omega, .inl (by omega), by go_num, e ▸ ho3, hkp3, hi3⟩
        case measure => simp [intOf]; omega
  · go_wp2_with fail
    go_end0
    by_cases hkn : k = n
    · subst hkn
      exact ⟨rfl, by rw [isort, HL.out]; exact ho, hkp, hi⟩
    · have hn0 : n = 0 := by omega
      have hx0 : xs = [] := List.eq_nil_of_length_eq_zero (by rw [HL.out]; exact hn0)
      have hk : k = 1 := by omega
      subst hk hx0
      exact ⟨rfl, ho, hkp, hi⟩
end

end Go.Proofs.YtedkfehdfmimoaaGreat

namespace Go.Proofs.YtedkfehdfmimoaaGreat
open Go.RowKit

def drawL (seed : Int) (at_ n : Nat) : List Int := (List.range n).map fun i => drawF seed ((at_ + i : Nat) : Int) % 17 - 8
theorem drawL_length (seed : Int) (a n : Nat) : (drawL seed a n).length = n := by simp [drawL]
theorem drawL_range (seed : Int) (a n : Nat) : inRange (-8) 8 (drawL seed a n) := by
  intro z hz
  obtain ⟨i, -, rfl⟩ := List.mem_map.1 hz
  omega
def drawTo (seed : Int) (a n j : Nat) : List Int := drawL seed a j ++ List.replicate (n - j) 0
theorem drawTo_length (seed : Int) (a n j : Nat) (h : j ≤ n) : (drawTo seed a n j).length = n := by simp [drawTo, drawL]; omega
theorem drawTo_step (seed : Int) (a n j : Nat) (h : j < n) : (drawTo seed a n j).set j (drawF seed ((a + j : Nat) : Int) % 17 - 8) = drawTo seed a n (j + 1) := by
  have e : n - j = (n - (j + 1)) + 1 := by omega
  unfold drawTo
  rw [e, List.replicate_succ, List.set_append_right _ _ (by simp [drawL])]
  simp [drawL, List.range_succ]
theorem drawTo_full (seed : Int) (a n : Nat) : drawTo seed a n n = drawL seed a n := by simp [drawTo]

set_option maxRecDepth 100000 in
set_option maxHeartbeats 1000000 in
theorem make1_any (w : World) (n a : Nat) (seed : Int) (q1 q2 : Nat) (hq : q1 ≠ q2) (hn : n ≤ 400) (ha : a ≤ 4000) (k1 : Blk w q1 3 #[.int .i64 seed]) (k2 : Blk w q2 3 #[.int .i64 a]) :
    Calls Tryz.prog 55 #[.int .i64 n, .pointer (some ⟨q1, 0, none⟩), .pointer (some ⟨q2, 0, none⟩)] w fun e w' => ∃ v, e = .returned v ∧ Own w' (fun g => w.heap.size ≤ g) 3 1 v n (ints (drawL seed a n)) ∧ Blk w' q2 3 #[.int .i64 ((a + n : Nat) : Int)] ∧ Keeps (· = q2) w w' := by
  have z1 := k1.lt
  have z2 := k2.lt
  go_enter Tryz.func55, Tryz.ntmps55
  go_wp2_with (at_make; refine wpList_make_ints _ rfl _ _ rfl _ _ n rfl rfl rfl rfl (by omega) ?_; intro w1 hown hb1 hz1)
  have c1 := k1.below hb1 z1
  have c2 := k2.below hb1 z2
  have hk0 : Keeps (· = q2) w w1 := Keeps.of_below hb1 _
  clear hb1
  go_loopw [6, 11] (fun v i wr => ∃ j : Nat, j ≤ n ∧ i = .int .i64 j ∧ Own wr (fun g => g = w.heap.size) 3 1 (.slice (some ⟨w.heap.size, 0, none⟩) n n) n (ints (drawTo seed a n j)) ∧ Blk wr q2 3 #[.int .i64 ((a + j : Nat) : Int)] ∧ Keeps (· = q2) w wr) (fun _ i _ => n - (intOf i).toNat)
  case atStart => exact ⟨0, by omega, rfl, by simpa [drawTo, drawL] using hown, c2, hk0⟩
  obtain ⟨j, hj, rfl, ho, kq, hkp⟩ := hrel
  by_cases hlt : j < n
  · have kp := hkp.blk k1 hq
    have d1 := kp.cell 0
    have d2 := kq.cell 0
    have e1 := kq.frozen 0
    have hf := ho.unfrozen j
    have hc := ho.get j hlt
    rw [ints_get _ j (by rw [drawTo_length _ _ _ _ hj]; exact hlt)] at hc
    simp only [List.getElem?_toArray, List.getElem?_cons_zero] at d1 d2
    obtain ⟨D, hD⟩ : ∃ D : Int, D = drawF seed ((a + j : Nat) : Int) := ⟨_, rfl⟩
    have hDr := drawF_range seed ((a + j : Nat) : Int)
    have hDc := fun w => draw_any seed ((a + j : Nat) : Int) w
    have hst := drawTo_step seed a n j hlt
    rw [← hD] at hDr hDc hst
    have HST := Lib.hid hst
    clear hD hst
    obtain ⟨D1, D2⟩ := hDr
    have m1 : 0 ≤ D % 17 := by omega
    have m2 : D % 17 < 17 := by omega
    have m3 : IntKind.i64.wrap (D % 17 - 8) = D % 17 - 8 := IntWalk.i64_in _ ⟨by omega, by omega⟩
    have m4 : IntKind.i64.wrap (((a + j : Nat) : Int) + 1) = ((a + j : Nat) : Int) + 1 := IntWalk.i64_in _ ⟨by omega, by omega⟩
    have hqa : q2 ≠ w.heap.size := by omega
    go_wp2_with (go_at_call 46; refine (hDc _).mono ?_; rintro e w' ⟨rfl, rfl⟩)
    go_roundw
    case rel =>
      refine ⟨j + 1, by omega, by go_num, ?_, ?_, ?_⟩
      · have := (ho.set j hlt (.int .i64 (D % 17 - 8))).setCell (p := ⟨q2, 0, none⟩) (by simpa using hqa) (.int .i64 (((a + j : Nat) : Int) + 1))
        rw [← HST.out]
        simpa [ints, List.map_set, Int.tmod_eq_emod_of_nonneg D1, m3, m4] using this
      · have := (kq.far (p := ⟨w.heap.size, j, none⟩) hqa (.int .i64 (D % 17 - 8))).set_ 0 (.int .i64 (((a + j : Nat) : Int) + 1))
        simpa [Int.tmod_eq_emod_of_nonneg D1, m3, m4, Nat.add_assoc, Int.add_assoc] using this
      · exact Keeps.setCell (Keeps.setCell hkp (fun h => absurd h (by simp)) _) (fun _ => rfl) _
    case measure => simp [intOf]; omega
  · obtain rfl : j = n := by omega
    rw [drawTo_full] at ho
    go_wp2_with fail
    go_ret
    exact ⟨_, rfl, ho.more (fun g _ hg => by omega), kq, hkp⟩
end Go.Proofs.YtedkfehdfmimoaaGreat

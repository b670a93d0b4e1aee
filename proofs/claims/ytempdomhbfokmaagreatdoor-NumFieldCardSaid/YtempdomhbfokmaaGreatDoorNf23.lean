/- Stream.Long: plain facts. Stream.Long. Stream.Rat: some rational, in lowest terms. Printed by gen_srat.py. The law NumField's walk, given stands(). Printed by gen_numfield.py. -/
import Derived.Test.YtempdomhbfokmaaGreatDoorNf22
import Derived.Test.YtempdomhbfokmaaGreatDoorNf9
import Derived.Laws.BytesArg
import Derived.Lib.LazyBuf
namespace Go.Proofs.YtempdomhbfokmaaGreatDoor
open Go.RowKit

theorem Tb.lt {w : World} (h : Tb w) {g : Nat} (hg : Tryz.prog.globalNamed "internal/strconv.uint64pow10" = some g) : g < w.heap.size := by
  unfold Tb Lib.TabIs World.var? at h
  simp only [hg, Option.bind_some] at h
  rcases Nat.lt_or_ge g w.heap.size with h' | h'
  · exact h'
  · rw [Array.getElem?_eq_none h'] at h; simp at h
/-- the table's block is another than p -/
def TbNe (p : Nat) : Prop := ∀ g, Tryz.prog.globalNamed "internal/strconv.uint64pow10" = some g → g ≠ p
theorem Tb.ne {w : World} (h : Tb w) {p : Nat} (hp : w.heap.size ≤ p) : TbNe p := fun g hg => by have := h.lt hg; omega
theorem Tb.keeps {S : Nat → Prop} {w w' : World} (h : Tb w) (hk : Keeps S w w') (hs : ∀ g, Tryz.prog.globalNamed "internal/strconv.uint64pow10" = some g → ¬ S g) : Tb w' := by
  have hl := @Tb.lt w h
  unfold Tb Lib.TabIs World.var? at *
  cases hg : Tryz.prog.globalNamed "internal/strconv.uint64pow10" with
  | none => simp [hg] at h
  | some g =>
    simp only [hg, Option.bind_some] at h ⊢
    rw [hk.block g (hl hg) (hs g hg)]
    exact h
theorem Tb.kp {p : Nat} {w w' : World} (h : Tb w) (hk : Keeps (· = p) w w') (hp : TbNe p) : Tb w' := h.keeps hk hp

def longN (k : Nat) : Nat := 10 ^ (k + 1) + 1
theorem dec_pow (k : Nat) : Lib.decDigits (10 ^ k) = 49 :: List.replicate k 48 := by
  induction k with
  | zero => rw [Lib.decDigits_one (by decide)]; rfl
  | succ k ih =>
    have h1 : ¬ 10 ^ (k + 1) < 10 := by
      have : 0 < 10 ^ k := Nat.pow_pos (by omega)
      rw [Nat.pow_succ]; omega
    rw [Lib.decDigits, dif_neg h1, show 10 ^ (k + 1) / 10 = 10 ^ k by rw [Nat.pow_succ]; omega, show 10 ^ (k + 1) % 10 = 0 by rw [Nat.pow_succ]; omega, ih, List.replicate_succ']
    rfl
theorem dec_long (k : Nat) : Lib.decDigits (longN k) = (49 :: List.replicate k 48) ++ [49] := by
  unfold longN
  have h0 : 0 < 10 ^ k := Nat.pow_pos (by omega)
  have h1 : ¬ 10 ^ (k + 1) + 1 < 10 := by rw [Nat.pow_succ]; omega
  rw [Lib.decDigits, dif_neg h1, show (10 ^ (k + 1) + 1) / 10 = 10 ^ k by rw [Nat.pow_succ]; omega, show (10 ^ (k + 1) + 1) % 10 = 1 by rw [Nat.pow_succ]; omega, dec_pow]
  rfl
/-- the text that Long builds, as bytes -/
def longL (k : Nat) : List Int := 49 :: List.replicate k 48
theorem longL_succ (k : Nat) : longL k ++ [48] = longL (k + 1) := by
  unfold longL
  rw [List.replicate_succ']
  rfl
theorem longL_length (k : Nat) : (longL k).length = k + 1 := by simp [longL]
theorem longL_nums (k : Nat) : longL k ++ [49] = (Lib.decDigits (longN k)).map fun b => (b.toNat : Int) := by
  rw [dec_long]
  simp [longL]
theorem longL_text (k : Nat) : strOfNums (longL k ++ [49]) = decB (longN k) := by
  rw [longL_nums, Lib.Lz.strOfNums_map]
  rfl
theorem longN_odd (k : Nat) : Nat.gcd (longN k) 2 = 1 := by
  unfold longN
  rw [Nat.gcd_comm, Nat.gcd_rec, show (10 ^ (k + 1) + 1) % 2 = 1 by rw [Nat.pow_succ]; omega]
  rfl
theorem long_q (neg : Bool) (k j : Nat) : numB (mkRat (sgn neg (longN k)) (2 ^ j : Nat)) = (if neg then ⟨#[45]⟩ ++ decB (longN k) else decB (longN k)) ∧ decB (mkRat (sgn neg (longN k)) (2 ^ j : Nat)).den = itoaB ((2 ^ j : Nat) : Int) := by
  have hg : Nat.gcd (longN k) (2 ^ j) = 1 := Nat.Coprime.pow_right j (longN_odd k)
  obtain ⟨h1, h2, h3⟩ := mk_parts neg (longN k) (2 ^ j) (Nat.pow_pos (by omega))
  rw [hg, Nat.div_one] at h1 h2
  have h4 := h3 (by unfold longN; omega)
  refine ⟨?_, by rw [h2, itoaB_nat]⟩
  unfold numB
  rw [h4, h1]
end Go.Proofs.YtempdomhbfokmaaGreatDoor

namespace Go.Proofs.YtempdomhbfokmaaGreatDoor
open Go.RowKit

theorem reads_loadL (w : World) (T : Nat → Prop) (ad : Addr) (xs : List Int) (hr : Reads w T 1 (some ad) xs.length (bytes xs)) : (loadCells ad xs.length).run Tryz.prog w = .ok (xs.map (Value.int .u8)).toArray w := by
  have h := run_loadCells_list (P := Tryz.prog) w ad (xs.map (Value.int .u8)) (fun j v hj => by
    rcases Nat.eq_zero_or_pos xs.length with h0 | h0
    · rw [List.eq_nil_of_length_eq_zero h0] at hj; cases hj
    · obtain ⟨ad', e, -, -, hc⟩ := hr.2 h0
      injection e with e
      subst e
      exact hc j v hj)
  simpa using h
theorem conv_text (w : World) (T : Nat → Prop) (ad : Addr) (c : Nat) (xs : List Int) (n : Nat) (hn : n = xs.length) (hr : Reads w T 1 (some ad) n (bytes xs)) : (convert 76 9 (.slice (some ad) n c)).run Tryz.prog w = .ok (.string (strOfNums xs)) w := by
  subst hn
  rw [run_convert_bytes_string w 76 9 5 _ _ c Tryz.underlying76 Tryz.underlying5 Tryz.underlying9, run_bytesToString w _ _ c xs (reads_loadL w T ad xs hr), foldl_push_bytes]
  simp [strOfNums, ByteArray.empty, ByteArray.emptyWithCapacity]
  rfl
theorem Str.over {w w' : World} {p : Nat} {A : Option Addr} {n c : Nat} {l : List Int} {a a' : Int} (h : Str w p A n c l a) (hk : Keeps (· = p) w w') (hb : Blk w' p 25 #[.slice A n c, .int .i64 a']) (h0 : 0 ≤ a') : Str w' p A n c l a' :=
  ⟨hb, h.reads.keeps hk (fun i h1 h2 => h1 h2), h.wf, h.len, h0⟩
theorem blk_set1 {w : World} {g : Nat} {t : TypeId} {a b : Value} (h : Blk w g t #[a, b]) (u : Value) : Blk (w.setCell ⟨g, 1, none⟩ u) g t #[a, u] := h.set_ 1 u
theorem longN_len (k : Nat) (h : k ≤ 60) : (ofN (longN k)).length ≤ 10 := by
  have h1 : longN k ≤ longN 60 := by
    unfold longN
    have := Nat.pow_le_pow_right (n := 10) (by decide) (show k + 1 ≤ 60 + 1 from Nat.succ_le_succ h)
    exact Nat.succ_le_succ this
  refine Nat.le_trans (ofN_length_mono _ _ h1) (ofN_length_le _ _ ?_)
  decide
theorem small_len (m : Nat) (h : m ≤ 1048576) : (ofN m).length ≤ 10 := by
  refine Nat.le_trans (ofN_length_mono _ _ h) (ofN_length_le _ _ ?_)
  decide
theorem shl_some (j : Int) (j1 : 0 ≤ j) (j2 : j ≤ 20) : ∃ J m : Nat, m = 2 ^ J ∧ m ≤ 1048576 ∧ wrap64 (2 ^ j.toNat) = (m : Int) ∧ -9223372036854775808 ≤ (m : Int) ∧ (m : Int) ≤ 9223372036854775807 ∧ 0 < m ∧ (ofN m).length ≤ 10 := by
  obtain ⟨J, hJ⟩ : ∃ J, J = j.toNat := ⟨_, rfl⟩
  have hJ20 : J ≤ 20 := by omega
  have hp : 0 < 2 ^ J := Nat.pow_pos (by decide)
  have hle : 2 ^ J ≤ 1048576 := Nat.le_trans (Nat.pow_le_pow_right (by decide) hJ20) (by decide)
  have hc : (2 : Int) ^ J = ((2 ^ J : Nat) : Int) := by simp
  rw [← hJ, hc]
  clear hc
  obtain ⟨m, hm⟩ : ∃ m : Nat, m = 2 ^ J := ⟨_, rfl⟩
  rw [← hm] at hp hle ⊢
  refine ⟨J, m, hm, hle, ?_, ?_, ?_, hp, small_len m hle⟩
  · clear hm; exact IntWalk.wrap64_in _ ⟨by omega, by omega⟩
  · clear hm; omega
  · clear hm; omega
set_option maxRecDepth 100000 in
set_option maxHeartbeats 8000000 in
theorem long_any (w : World) (p : Nat) (A : Option Addr) (n c : Nat) (l : List Int) (a : Int) (h : Str w p A n c l a) (ha : a ≤ 900000000) (htb : Tb w) (hp : TbNe p) :
    Calls Tryz.prog 19 #[.pointer (some ⟨p, 0, none⟩)] w fun e w' => ∃ (q : Rat) (a' : Int), e = .returned (ratV q) ∧ Sz q 10 ∧ a ≤ a' ∧ a' ≤ a + 4 ∧ Str w' p A n c l a' ∧ Keeps (· = p) w w' := by
  have hpl := h.blk.lt
  obtain ⟨i0, hi, hz0, hz1, hz2⟩ := info_parts u8_info
  have KR0 := Lib.hid (Blk.new w 27 #[.string ⟨#[]⟩, .string ⟨#[]⟩])
  have HS0 := Lib.hid ((h.alloc (.cells #[.string ⟨#[]⟩, .string ⟨#[]⟩] 27)).alloc (.cells #[.int .u8 49] 5))
  have HO0 : Hid (Own ((w.alloc (.cells #[.string ⟨#[]⟩, .string ⟨#[]⟩] 27)).alloc (.cells #[.int .u8 49] 5)) (fun g => w.heap.size + 1 ≤ g) 5 1 (.slice (some ⟨w.heap.size + 1, 0, none⟩) 1 1) 1 (bytes (longL 0))) := Lib.hid (by
    have h := own_lit (w.alloc (.cells #[.string ⟨#[]⟩, .string ⟨#[]⟩] 27)) (fun g => w.heap.size + 1 ≤ g) 5 (bytes (longL 0)) 1 (by decide) rfl (by simp)
    simp only [World.size_alloc] at h
    exact h)
  have HK0 := Lib.hid (((Keeps.refl (· = p) w).alloc (.cells #[.string ⟨#[]⟩, .string ⟨#[]⟩] 27)).alloc (.cells #[.int .u8 49] 5))
  have H := Lib.hid h
  have h00 := h.at0
  clear h
  go_enter Tryz.func19, Tryz.ntmps19
  go_wp2_with fail
  refine (range_any _ p A n c l a 1 60 HS0.out (by omega) (by omega) (by omega) (by omega)).mono ?_
  rintro e w1 ⟨z, a1, rfl, ⟨z1, z2⟩, g1, g2, hs1, hk1⟩
  have HO1 := Lib.hid (HO0.out.keeps hk1 (fun i hi h => by omega))
  have KR1 := Lib.hid (hk1.blk (KR0.out.alloc _) (by omega))
  have HK1 := Lib.hid (HK0.out.tr hk1)
  have HP1 := Lib.hid hs1.blk
  clear hs1 hk1 HS0 HO0 KR0 HK0
  obtain ⟨N, rfl⟩ : ∃ N : Nat, z = (N : Int) := ⟨z.toNat, by omega⟩
  go_wp2_with fail
  go_loopg [3, 8] 100 (fun f sv iv wr => ∃ k : Nat, iv = .int .i64 (k : Int) ∧ k ≤ N ∧ 61 ≤ f + k ∧ Hid (Own wr (fun g => w.heap.size + 1 ≤ g) 5 1 sv (k + 1) (bytes (longL k))) ∧ Hid (Keeps (· = p) w wr) ∧ Hid (Blk wr w.heap.size 27 #[.string ⟨#[]⟩, .string ⟨#[]⟩]) ∧ Hid (Blk wr p 25 #[.slice A n c, .int .i64 a1]))
  case atStart => exact ⟨0, rfl, by omega, by omega, HO1, HK1, KR1, HP1⟩
  obtain ⟨k, rfl, hkN, hkf, HO, HK, KR, HP⟩ := hrel
  clear HO1 HK1 KR1 HP1
  by_cases hlt : k < N
  · have hlt1 : (k : Int) < (N : Int) := by omega
    have hw1 : wrap64 ((k : Int) + 1) = (k : Int) + 1 := IntWalk.wrap64_in _ ⟨by omega, by omega⟩
    go_wp2_with (at_builtin; go_must (refine wpList_append_any _ rfl _ _ 76 rfl 5 i0 _ 1 1 Tryz.underlying76 hi hz0 hz1 hz2 rfl (by omega) _ (k + 1) _ rfl (HO.out.alloc _) _ 1 1 _ rfl (lit_readsN _ _ (bytes [48]) 1 rfl) (bytes_one _) (by unfold maxLen; omega) (by omega) ?_); intro v' w3 happ)
    have hzz := HK.out.size
    have hzr := KR.out.lt
    obtain ⟨o3, b3⟩ := appBelow happ (B := w.heap.size + 1) (by simp; omega) (fun g hg => HO.out.2 g hg)
    rw [← bytes_append, longL_succ] at o3
    have HO' := Lib.hid o3
    have HK' := Lib.hid ((HK.out.alloc _).below b3 (fun i hi h => by omega))
    have KR' := Lib.hid ((KR.out.alloc _).below b3 (by omega))
    have HP' := Lib.hid ((HP.out.alloc _).below b3 (by omega))
    clear happ o3 b3
    go_roundg (gk - 1)
    case measure => omega
    case rel => exact ⟨k + 1, by push_cast; rfl, by omega, by omega, HO', HK', KR', HP'⟩
  · have hlt1 : ¬ (k : Int) < (N : Int) := by omega
    obtain rfl : k = N := by omega
    have hzr := KR.out.lt
    have hzz := HK.out.size
    go_upto_region 6 with (fail)
    go_upto_region 7 with (at_builtin; go_must (refine wpList_append_any _ rfl _ _ 76 rfl 5 i0 _ 1 1 Tryz.underlying76 hi hz0 hz1 hz2 rfl (by omega) _ (k + 1) _ rfl (HO.out.alloc _) _ 1 1 _ rfl (lit_readsN _ _ (bytes [49]) 1 rfl) (bytes_one _) (by unfold maxLen; omega) (by omega) ?_); intro v' w3 happ)
    obtain ⟨o3, b3⟩ := appBelow happ (B := w.heap.size + 1) (by simp; omega) (fun g hg => HO.out.2 g hg)
    rw [← bytes_append] at o3
    have HK3 := Lib.hid ((HK.out.alloc _).below b3 (fun i hi h => by omega))
    have KR3 := Lib.hid ((KR.out.alloc _).below b3 (by omega))
    have HP3 := Lib.hid ((HP.out.alloc _).below b3 (by omega))
    obtain ⟨g, cap, rfl, -, -, -, -⟩ := o3.form (by omega)
    have hcv := conv_text w3 _ ⟨g, 0, none⟩ cap (longL k ++ [49]) (k + 1 + 1) (by rw [List.length_append, longL_length]; rfl) o3.reads
    rw [longL_text] at hcv
    have hlq := fun neg j => long_q neg k j
    have hll := longN_len k (Nat.le_of_lt_succ (by omega))
    have hss := decB_small (longN k) (Nat.le_trans hll (by decide))
    have hcat := fun W => run_string_add_sum (P := Tryz.prog) (w := W) ⟨#[45]⟩ (decB (longN k)) (by show 1 + (decB (longN k)).size ≤ _; omega)
    generalize decB (longN k) = sx at *
    have HLQ := Lib.hid hlq
    clear happ o3 b3 HO HK KR HP hlq hss hkf
    have KQ3 := Lib.hid (Blk.new w3 27 #[.string sx, .string ⟨#[49]⟩])
    have KR4 := Lib.hid (KR3.out.alloc (.cells #[.string sx, .string ⟨#[49]⟩] 27))
    have HK4 := Lib.hid (HK3.out.alloc (.cells #[.string sx, .string ⟨#[49]⟩] 27))
    have HS4 := Lib.hid (H.out.over HK4.out (HP3.out.alloc _) (by omega : 0 ≤ a1))
    have hz3 := HK3.out.size
    have hzr3 := KR3.out.lt
    clear HK3 KR3 HP3
    go_wp2_with fail
    refine (flip_any _ p A n c l a1 2 HS4.out (by omega) (by omega)).mono ?_
    rintro e w5 ⟨b1, a2, rfl, g3, g4, hs5, hk5⟩
    have KQ5 := Lib.hid (hk5.blk KQ3.out (by omega))
    have KR5 := Lib.hid (hk5.blk KR4.out (by omega))
    have HK5 := Lib.hid (HK4.out.tr hk5)
    have HS5 := Lib.hid hs5
    clear hs5 hk5 KQ3 KR4 HK4 HS4 hcv
    have HTB : Hid (Tb w5) := Lib.hid (htb.kp HK5.out hp)
    cases b1 with
    | true =>
      go_wp2_with fail
      refine (range_any _ p A n c l a2 0 20 HS5.out (by omega) (by omega) (by omega) (by omega)).mono ?_
      rintro e w6 ⟨j, a3, rfl, ⟨j1, j2⟩, g5, g6, hs6, hk6⟩
      have KQ6 := Lib.hid (hk6.blk KQ5.out (by omega))
      have KR6 := Lib.hid (hk6.blk KR5.out (by omega))
      have HK6 := Lib.hid (HK5.out.tr hk6)
      have HP6 := Lib.hid hs6.blk
      have HTB6 : Hid (Tb w6) := Lib.hid (htb.kp HK6.out hp)
      obtain ⟨J, m, hm, hm2, hsh, hm0, hm1, hmp, hml⟩ := shl_some j j1 j2
      have HIT := Lib.hid (itoa_any w6 (m : Int) hm0 hm1 HTB6.out)
      have hlt := HLQ.out true J
      have hlf := HLQ.out false J
      rw [← hm] at hlt hlf
      have HST := Lib.hid (Sz_mk true (longN k) m 10 hmp hll hml)
      have HSF := Lib.hid (Sz_mk false (longN k) m 10 hmp hll hml)
      generalize mkRat (sgn true (longN k)) m = qt at *
      generalize mkRat (sgn false (longN k)) m = qf at *
      generalize itoaB (m : Int) = sy at *
      have HQT : Hid (ratV qt = .agg #[.string (⟨#[45]⟩ ++ sx), .string sy]) := Lib.hid (by unfold ratV; rw [hlt.1, hlt.2]; rfl)
      have HQF : Hid (ratV qf = .agg #[.string sx, .string sy]) := Lib.hid (by unfold ratV; rw [hlf.1, hlf.2]; rfl)
      generalize (⟨#[45]⟩ : ByteArray) ++ sx = sm at *
      clear hs6 hk6 KQ5 KR5 HK5 HS5 HTB HTB6 hlt hlf hm hm2 hm0 hm1 hmp hml hll
      go_wp2_with fail
      refine HIT.out.mono ?_
      rintro e w7 ⟨rfl, hb7⟩
      have KQ7 := Lib.hid (KQ6.out.below hb7 KQ6.out.lt)
      have KR7 := Lib.hid (KR6.out.below hb7 KR6.out.lt)
      have HP7 := Lib.hid (HP6.out.below hb7 HP6.out.lt)
      have HK7 := Lib.hid (HK6.out.fresh hb7)
      clear hb7 KQ6 KR6 HP6 HK6
      have e0 : w7.cell? ⟨w3.heap.size, 0, none⟩ = some (.string sx) := KQ7.out.cell 0
      have e1 : w7.cell? ⟨w3.heap.size, 1, none⟩ = some (.string ⟨#[49]⟩) := KQ7.out.cell 1
      have f1 := KQ7.out.frozen 1
      go_wp2_with fail
      have KQ8 := Lib.hid (blk_set1 KQ7.out (.string sy))
      have KR8 := Lib.hid (show Blk (w7.setCell ⟨w3.heap.size, 1, none⟩ (.string sy)) w.heap.size 27 _ from KR7.out.far (fun h => by have h2 : w.heap.size = w3.heap.size := h; omega) _)
      have HK8 : Hid (Keeps (· = p) w (w7.setCell ⟨w3.heap.size, 1, none⟩ (.string sy))) := Lib.hid (HK7.out.setCell (p := ⟨w3.heap.size, 1, none⟩) (fun h => absurd h (by show ¬ (w3.heap.size < _); omega)) _)
      have HS8 := Lib.hid (H.out.over HK8.out (HP7.out.far (fun h => by have h2 : p = w3.heap.size := h; omega) _) (by omega : 0 ≤ a3))
      clear KQ7 KR7 HK7 HP7 e0 e1 f1
      refine (flip_any _ p A n c l a3 2 HS8.out (by omega) (by omega)).mono ?_
      rintro e w9 ⟨b2, a4, rfl, g7, g8, hs9, hk9⟩
      have KQ9 := Lib.hid (hk9.blk KQ8.out (by omega))
      have KR9 := Lib.hid (hk9.blk KR8.out (by omega))
      have HK9 := Lib.hid (HK8.out.tr hk9)
      have HS9 := Lib.hid hs9
      clear hs9 hk9 KQ8 KR8 HK8 HS8
      have q0 : w9.cell? ⟨w3.heap.size, 0, none⟩ = some (.string sx) := KQ9.out.cell 0
      have q1 : w9.cell? ⟨w3.heap.size, 1, none⟩ = some (.string sy) := KQ9.out.cell 1
      have fq0 := KQ9.out.frozen 0
      have r0 : w9.cell? ⟨w.heap.size, 0, none⟩ = some (.string ⟨#[]⟩) := KR9.out.cell 0
      have r1 : w9.cell? ⟨w.heap.size, 1, none⟩ = some (.string ⟨#[]⟩) := KR9.out.cell 1
      have fr0 := KR9.out.frozen 0
      have fr1 := KR9.out.frozen 1
      have zne : w.heap.size ≠ w3.heap.size := by omega
      have zp : p ≠ w3.heap.size := by omega
      have zpr : p ≠ w.heap.size := by omega
      have h4 : 0 ≤ a4 := by omega
      have h5 : a ≤ a4 := by omega
      have h6 : a4 ≤ a + 4 := by omega
      cases b2 with
      | true =>
        go_wp2_with fail
        refine bodyPost_ret (v := .agg #[.string sm, .string sy]) ?_ ?_ ?_
        · exact res_cell (p := 2) (ty := 27) (fn := Tryz.f19) rfl _ _ (w.heap.size) 27 #[.string sm, .string sy] _ rfl (blk2' _ _ 27 _ _ _ _ (KR9.out.far (p := ⟨w3.heap.size, 0, none⟩) zne _)) Tryz.underlying27 rfl rat_size
        · rfl
        have HKE : Keeps (· = p) w (((w9.setCell ⟨w3.heap.size, 0, none⟩ (.string sm)).setCell ⟨w.heap.size, 0, none⟩ (.string sm)).setCell ⟨w.heap.size, 1, none⟩ (.string sy)) := ((HK9.out.setCell (p := ⟨w3.heap.size, 0, none⟩) (fun h => absurd h (by show ¬ (w3.heap.size < _); omega)) _).setCell (p := ⟨w.heap.size, 0, none⟩) (fun h => absurd h (Nat.lt_irrefl _)) _).setCell (p := ⟨w.heap.size, 1, none⟩) (fun h => absurd h (Nat.lt_irrefl _)) _
        exact ⟨qt, a4, by rw [HQT.out], HST.out, h5, h6, H.out.over HKE (((HS9.out.blk.far (p := ⟨w3.heap.size, 0, none⟩) zp _).far (p := ⟨w.heap.size, 0, none⟩) zpr _).far (p := ⟨w.heap.size, 1, none⟩) zpr _) h4, HKE⟩
      | false =>
        go_wp2_with fail
        refine bodyPost_ret (v := .agg #[.string sx, .string sy]) ?_ ?_ ?_
        · exact res_cell (p := 2) (ty := 27) (fn := Tryz.f19) rfl _ _ (w.heap.size) 27 #[.string sx, .string sy] _ rfl (blk2' w9 _ 27 _ _ _ _ KR9.out) Tryz.underlying27 rfl rat_size
        · rfl
        have HKE : Keeps (· = p) w ((w9.setCell ⟨w.heap.size, 0, none⟩ (.string sx)).setCell ⟨w.heap.size, 1, none⟩ (.string sy)) := (HK9.out.setCell (p := ⟨w.heap.size, 0, none⟩) (fun h => absurd h (Nat.lt_irrefl _)) _).setCell (p := ⟨w.heap.size, 1, none⟩) (fun h => absurd h (Nat.lt_irrefl _)) _
        exact ⟨qf, a4, by rw [HQF.out], HSF.out, h5, h6, H.out.over HKE ((HS9.out.blk.far (p := ⟨w.heap.size, 0, none⟩) zpr _).far (p := ⟨w.heap.size, 1, none⟩) zpr _) h4, HKE⟩
    | false =>
      have hlt := HLQ.out true 0
      have hlf := HLQ.out false 0
      have HST := Lib.hid (Sz_mk true (longN k) 1 10 (by decide) hll (small_len 1 (by decide)))
      have HSF := Lib.hid (Sz_mk false (longN k) 1 10 (by decide) hll (small_len 1 (by decide)))
      rw [Nat.pow_zero] at hlt hlf
      generalize mkRat (sgn true (longN k)) (1 : Nat) = qt at *
      generalize mkRat (sgn false (longN k)) (1 : Nat) = qf at *
      have HQT : Hid (ratV qt = .agg #[.string (⟨#[45]⟩ ++ sx), .string ⟨#[49]⟩]) := Lib.hid (by unfold ratV; rw [hlt.1, hlt.2, itoaB_nat, decB_1]; rfl)
      have HQF : Hid (ratV qf = .agg #[.string sx, .string ⟨#[49]⟩]) := Lib.hid (by unfold ratV; rw [hlf.1, hlf.2, itoaB_nat, decB_1]; rfl)
      generalize (⟨#[45]⟩ : ByteArray) ++ sx = sm at *
      clear hlt hlf hll HTB
      go_wp2_with fail
      have KQ8 := KQ5
      have KR8 := KR5
      have HK8 := HK5
      have HS8 := HS5
      clear KQ5 KR5 HK5 HS5
      refine (flip_any _ p A n c l a2 2 HS8.out (by omega) (by omega)).mono ?_
      rintro e w9 ⟨b2, a4, rfl, g7, g8, hs9, hk9⟩
      have KQ9 := Lib.hid (hk9.blk KQ8.out (by omega))
      have KR9 := Lib.hid (hk9.blk KR8.out (by omega))
      have HK9 := Lib.hid (HK8.out.tr hk9)
      have HS9 := Lib.hid hs9
      clear hs9 hk9 KQ8 KR8 HK8 HS8
      have q0 : w9.cell? ⟨w3.heap.size, 0, none⟩ = some (.string sx) := KQ9.out.cell 0
      have q1 : w9.cell? ⟨w3.heap.size, 1, none⟩ = some (.string ⟨#[49]⟩) := KQ9.out.cell 1
      have fq0 := KQ9.out.frozen 0
      have r0 : w9.cell? ⟨w.heap.size, 0, none⟩ = some (.string ⟨#[]⟩) := KR9.out.cell 0
      have r1 : w9.cell? ⟨w.heap.size, 1, none⟩ = some (.string ⟨#[]⟩) := KR9.out.cell 1
      have fr0 := KR9.out.frozen 0
      have fr1 := KR9.out.frozen 1
      have zne : w.heap.size ≠ w3.heap.size := by omega
      have zp : p ≠ w3.heap.size := by omega
      have zpr : p ≠ w.heap.size := by omega
      have h4 : 0 ≤ a4 := by omega
      have h5 : a ≤ a4 := by omega
      have h6 : a4 ≤ a + 4 := by omega
      cases b2 with
      | true =>
        go_wp2_with fail
        refine bodyPost_ret (v := .agg #[.string sm, .string ⟨#[49]⟩]) ?_ ?_ ?_
        · exact res_cell (p := 2) (ty := 27) (fn := Tryz.f19) rfl _ _ (w.heap.size) 27 #[.string sm, .string ⟨#[49]⟩] _ rfl (blk2' _ _ 27 _ _ _ _ (KR9.out.far (p := ⟨w3.heap.size, 0, none⟩) zne _)) Tryz.underlying27 rfl rat_size
        · rfl
        have HKE : Keeps (· = p) w (((w9.setCell ⟨w3.heap.size, 0, none⟩ (.string sm)).setCell ⟨w.heap.size, 0, none⟩ (.string sm)).setCell ⟨w.heap.size, 1, none⟩ (.string ⟨#[49]⟩)) := ((HK9.out.setCell (p := ⟨w3.heap.size, 0, none⟩) (fun h => absurd h (by show ¬ (w3.heap.size < _); omega)) _).setCell (p := ⟨w.heap.size, 0, none⟩) (fun h => absurd h (Nat.lt_irrefl _)) _).setCell (p := ⟨w.heap.size, 1, none⟩) (fun h => absurd h (Nat.lt_irrefl _)) _
        exact ⟨qt, a4, by rw [HQT.out], HST.out, h5, h6, H.out.over HKE (((HS9.out.blk.far (p := ⟨w3.heap.size, 0, none⟩) zp _).far (p := ⟨w.heap.size, 0, none⟩) zpr _).far (p := ⟨w.heap.size, 1, none⟩) zpr _) h4, HKE⟩
      | false =>
        go_wp2_with fail
        refine bodyPost_ret (v := .agg #[.string sx, .string ⟨#[49]⟩]) ?_ ?_ ?_
        · exact res_cell (p := 2) (ty := 27) (fn := Tryz.f19) rfl _ _ (w.heap.size) 27 #[.string sx, .string ⟨#[49]⟩] _ rfl (blk2' w9 _ 27 _ _ _ _ KR9.out) Tryz.underlying27 rfl rat_size
        · rfl
        have HKE : Keeps (· = p) w ((w9.setCell ⟨w.heap.size, 0, none⟩ (.string sx)).setCell ⟨w.heap.size, 1, none⟩ (.string ⟨#[49]⟩)) := (HK9.out.setCell (p := ⟨w.heap.size, 0, none⟩) (fun h => absurd h (Nat.lt_irrefl _)) _).setCell (p := ⟨w.heap.size, 1, none⟩) (fun h => absurd h (Nat.lt_irrefl _)) _
        exact ⟨qf, a4, by rw [HQF.out], HSF.out, h5, h6, H.out.over HKE ((HS9.out.blk.far (p := ⟨w.heap.size, 0, none⟩) zpr _).far (p := ⟨w.heap.size, 1, none⟩) zpr _) h4, HKE⟩
end Go.Proofs.YtempdomhbfokmaaGreatDoor

namespace Go.Proofs.YtempdomhbfokmaaGreatDoor
open Go.RowKit

theorem mk_size (n : Int) (d : Nat) (h1 : -2147483648 ≤ n ∧ n ≤ 2147483648) (h2 : 1 ≤ d ∧ d ≤ 2147483648) : Sz (mkRat n d) 10 := by
  obtain ⟨neg, N, hn, hN⟩ : ∃ (neg : Bool) (N : Nat), n = sgn neg N ∧ N ≤ 2147483648 := by
    by_cases h : n < 0
    · exact ⟨true, n.natAbs, by simp only [sgn, if_true]; omega, by omega⟩
    · exact ⟨false, n.natAbs, by simp only [sgn, Bool.false_eq_true, if_false]; omega, by omega⟩
  subst hn
  have e : ∀ m : Nat, m ≤ 2147483648 → (ofN m).length ≤ 10 := fun m h => Nat.le_trans (ofN_length_mono _ _ h) (ofN_length_le _ _ (by decide))
  exact Sz_mk neg N d 10 h2.1 (e N hN) (e d h2.2)
set_option maxRecDepth 100000 in
set_option maxHeartbeats 8000000 in
theorem srat_any (w : World) (p : Nat) (A : Option Addr) (n c : Nat) (l : List Int) (a : Int) (h : Str w p A n c l a) (ha : a ≤ 800000000) (htb : Tb w) (hp : TbNe p) :
    Calls Tryz.prog 5 #[.pointer (some ⟨p, 0, none⟩)] w fun e w' => ∃ (q : Rat) (a' : Int), e = .returned (ratV q) ∧ Sz q 10 ∧ a ≤ a' ∧ a' ≤ a + 8 ∧ Str w' p A n c l a' ∧ Keeps (· = p) w w' := by
  have hpl := h.blk.lt
  have H := Lib.hid h
  have h00 := h.at0
  have KR0 := Lib.hid (Blk.new w 27 #[.string ⟨#[]⟩, .string ⟨#[]⟩])
  have HK0 := Lib.hid ((Keeps.refl (· = p) w).alloc (.cells #[.string ⟨#[]⟩, .string ⟨#[]⟩] 27))
  have HS0 := Lib.hid (h.alloc (.cells #[.string ⟨#[]⟩, .string ⟨#[]⟩] 27))
  clear h
  go_enter Tryz.func5, Tryz.ntmps5
  go_wp2_with fail
  refine (range_any _ p A n c l a (-20) 20 HS0.out (by omega) (by omega) (by omega) (by omega)).mono ?_
  rintro e w1 ⟨nv, a1, rfl, ⟨n1, n2⟩, g1, g2, hs1, hk1⟩
  have KR1 := Lib.hid (hk1.blk KR0.out (by omega))
  have HK1 := Lib.hid (HK0.out.tr hk1)
  have HS1 := Lib.hid hs1
  clear hs1 hk1 KR0 HK0 HS0
  go_wp2_with fail
  refine (next_any _ p A n c l a1 6 HS1.out (by omega) (by omega)).mono ?_
  rintro e w2 ⟨v, a2, rfl, ⟨v1, v2, -⟩, g3, g4, hs2, hk2⟩
  have v3 := v2 (by omega)
  have KR2 := Lib.hid (hk2.blk KR1.out (by omega))
  have HK2 := Lib.hid (HK1.out.tr hk2)
  have HS2 := Lib.hid hs2
  clear hs2 hk2 KR1 HK1 HS1 v2
  obtain ⟨V, rfl⟩ : ∃ V : Nat, v = (V : Int) := ⟨v.toNat, by omega⟩
  have hV : V < 6 := by omega
  clear v1 v3
  have c0 : ((V : Int) == 0) = decide (V = 0) := by by_cases h : V = 0 <;> simp [h]
  clear c0
  rcases (show V = 0 ∨ V = 1 ∨ V = 2 ∨ V = 3 ∨ (V = 4 ∨ V = 5) by omega) with rfl | rfl | rfl | rfl | hV45
  · go_wp2_with fail
    refine (range_any _ p A n c l a2 1 9 HS2.out (by omega) (by omega) (by omega) (by omega)).mono ?_
    rintro e w3 ⟨d, a3, rfl, ⟨d1, d2⟩, g5, g6, hs3, hk3⟩
    have KR3 := Lib.hid (hk3.blk KR2.out (by omega))
    have HK3 := Lib.hid (HK2.out.tr hk3)
    have HS3 := Lib.hid hs3
    clear hs3 hk3 KR2 HK2 HS2
    obtain ⟨D, rfl⟩ : ∃ D : Nat, d = (D : Int) := ⟨d.toNat, by omega⟩
    have hD : 1 ≤ D ∧ D ≤ 2147483648 := ⟨by omega, by omega⟩
    have HRD := Lib.hid (reduced_int w3 nv D ⟨by omega, by omega⟩ hD (htb.kp HK3.out hp))
    have HSZ := Lib.hid (mk_size nv D ⟨by omega, by omega⟩ hD)
    unfold ratV at HRD
    obtain ⟨q, hq⟩ : ∃ q, q = mkRat nv D := ⟨_, rfl⟩
    rw [← hq] at HRD HSZ
    obtain ⟨sn, hsn⟩ : ∃ sn, sn = numB q := ⟨_, rfl⟩
    obtain ⟨sd, hsd⟩ : ∃ sd, sd = decB q.den := ⟨_, rfl⟩
    rw [← hsn, ← hsd] at HRD
    have HQV : Hid (ratV q = .agg #[.string sn, .string sd]) := Lib.hid (by unfold ratV; rw [← hsn, ← hsd])
    have h5 : 0 ≤ a3 := by omega
    have h6 : a ≤ a3 := by omega
    have h7 : a3 ≤ a + 8 := by omega
    clear hq hsn hsd
    go_wp2_with fail
    refine HRD.out.mono ?_
    rintro e w9 ⟨rfl, hb9⟩
    have KR9 := Lib.hid (KR3.out.below hb9 KR3.out.lt)
    have HK9 := Lib.hid (HK3.out.fresh hb9)
    have HS9 := Lib.hid (HS3.out.fresh hb9)
    clear hb9
    have r0 : w9.cell? ⟨w.heap.size, 0, none⟩ = some (.string ⟨#[]⟩) := KR9.out.cell 0
    have r1 : w9.cell? ⟨w.heap.size, 1, none⟩ = some (.string ⟨#[]⟩) := KR9.out.cell 1
    have fr0 := KR9.out.frozen 0
    have fr1 := KR9.out.frozen 1
    have zpr : p ≠ w.heap.size := by omega
    go_wp2_with fail
    refine bodyPost_ret (v := .agg #[.string sn, .string sd]) ?_ ?_ ?_
    · exact res_cell (p := 2) (ty := 27) (fn := Tryz.f5) rfl _ _ (w.heap.size) 27 #[.string sn, .string sd] _ rfl (blk2' w9 _ 27 _ _ _ _ KR9.out) Tryz.underlying27 rfl rat_size
    · rfl
    have HKE : Keeps (· = p) w ((w9.setCell ⟨w.heap.size, 0, none⟩ (.string sn)).setCell ⟨w.heap.size, 1, none⟩ (.string sd)) := (HK9.out.setCell (p := ⟨w.heap.size, 0, none⟩) (fun h => absurd h (Nat.lt_irrefl _)) _).setCell (p := ⟨w.heap.size, 1, none⟩) (fun h => absurd h (Nat.lt_irrefl _)) _
    exact ⟨q, a3, by rw [HQV.out], HSZ.out, h6, h7, H.out.over HKE ((HS9.out.blk.far (p := ⟨w.heap.size, 0, none⟩) zpr _).far (p := ⟨w.heap.size, 1, none⟩) zpr _) h5, HKE⟩
  · go_wp2_with fail
    have HK2' := Lib.hid (HK2.out.alloc (.cells #[.int .i64 2, .int .i64 4, .int .i64 8, .int .i64 3, .int .i64 7, .int .i64 1000] 3))
    have KR2' := Lib.hid (KR2.out.alloc (.cells #[.int .i64 2, .int .i64 4, .int .i64 8, .int .i64 3, .int .i64 7, .int .i64 1000] 3))
    have hpl2 := HS2.out.blk.lt
    have hzr2 := KR2.out.lt
    refine (pick_any _ p A n c l a2 (HS2.out.alloc _) (by omega) _ _ _ [2, 4, 8, 3, 7, 1000] _ (reads_new _ _ _ _ rfl) (by show ¬ (p = _); omega) (by decide) (by decide)).mono ?_
    rintro e w3 ⟨d, a3, rfl, hd, g5, g6, hs3, hk3⟩
    have KR3 := Lib.hid (hk3.blk KR2'.out (by omega))
    have HK3 := Lib.hid (HK2'.out.tr hk3)
    have HS3 := Lib.hid hs3
    clear hs3 hk3 KR2 HK2 HS2 KR2' HK2'
    have hdd : 1 ≤ d ∧ d ≤ 1000 := by
      simp at hd
      omega
    clear hd
    obtain ⟨D, rfl⟩ : ∃ D : Nat, d = (D : Int) := ⟨d.toNat, by omega⟩
    have hD : 1 ≤ D ∧ D ≤ 2147483648 := ⟨by omega, by omega⟩
    have HRD := Lib.hid (reduced_int w3 nv D ⟨by omega, by omega⟩ hD (htb.kp HK3.out hp))
    have HSZ := Lib.hid (mk_size nv D ⟨by omega, by omega⟩ hD)
    unfold ratV at HRD
    obtain ⟨q, hq⟩ : ∃ q, q = mkRat nv D := ⟨_, rfl⟩
    rw [← hq] at HRD HSZ
    obtain ⟨sn, hsn⟩ : ∃ sn, sn = numB q := ⟨_, rfl⟩
    obtain ⟨sd, hsd⟩ : ∃ sd, sd = decB q.den := ⟨_, rfl⟩
    rw [← hsn, ← hsd] at HRD
    have HQV : Hid (ratV q = .agg #[.string sn, .string sd]) := Lib.hid (by unfold ratV; rw [← hsn, ← hsd])
    have h5 : 0 ≤ a3 := by omega
    have h6 : a ≤ a3 := by omega
    have h7 : a3 ≤ a + 8 := by omega
    clear hq hsn hsd
    go_wp2_with fail
    refine HRD.out.mono ?_
    rintro e w9 ⟨rfl, hb9⟩
    have KR9 := Lib.hid (KR3.out.below hb9 KR3.out.lt)
    have HK9 := Lib.hid (HK3.out.fresh hb9)
    have HS9 := Lib.hid (HS3.out.fresh hb9)
    clear hb9
    have r0 : w9.cell? ⟨w.heap.size, 0, none⟩ = some (.string ⟨#[]⟩) := KR9.out.cell 0
    have r1 : w9.cell? ⟨w.heap.size, 1, none⟩ = some (.string ⟨#[]⟩) := KR9.out.cell 1
    have fr0 := KR9.out.frozen 0
    have fr1 := KR9.out.frozen 1
    have zpr : p ≠ w.heap.size := by omega
    go_wp2_with fail
    refine bodyPost_ret (v := .agg #[.string sn, .string sd]) ?_ ?_ ?_
    · exact res_cell (p := 2) (ty := 27) (fn := Tryz.f5) rfl _ _ (w.heap.size) 27 #[.string sn, .string sd] _ rfl (blk2' w9 _ 27 _ _ _ _ KR9.out) Tryz.underlying27 rfl rat_size
    · rfl
    have HKE : Keeps (· = p) w ((w9.setCell ⟨w.heap.size, 0, none⟩ (.string sn)).setCell ⟨w.heap.size, 1, none⟩ (.string sd)) := (HK9.out.setCell (p := ⟨w.heap.size, 0, none⟩) (fun h => absurd h (Nat.lt_irrefl _)) _).setCell (p := ⟨w.heap.size, 1, none⟩) (fun h => absurd h (Nat.lt_irrefl _)) _
    exact ⟨q, a3, by rw [HQV.out], HSZ.out, h6, h7, H.out.over HKE ((HS9.out.blk.far (p := ⟨w.heap.size, 0, none⟩) zpr _).far (p := ⟨w.heap.size, 1, none⟩) zpr _) h5, HKE⟩
  · go_wp2_with fail
    refine (word_any _ p A n c l a2 HS2.out (by omega)).mono ?_
    rintro e w3 ⟨nw, a3, rfl, ⟨m1, m2⟩, g5, g6, hs3, hk3⟩
    have KR3 := Lib.hid (hk3.blk KR2.out (by omega))
    have HK3 := Lib.hid (HK2.out.tr hk3)
    have HS3 := Lib.hid hs3
    clear hs3 hk3 KR2 HK2 HS2
    go_wp2_with fail
    refine (range_any _ p A n c l a3 1 99 HS3.out (by omega) (by omega) (by omega) (by omega)).mono ?_
    rintro e w4 ⟨d, a4, rfl, ⟨d1, d2⟩, g7, g8, hs4, hk4⟩
    have KR4 := Lib.hid (hk4.blk KR3.out (by omega))
    have HK4 := Lib.hid (HK3.out.tr hk4)
    have HS4 := Lib.hid hs4
    clear hs4 hk4 KR3 HK3 HS3
    obtain ⟨D, rfl⟩ : ∃ D : Nat, d = (D : Int) := ⟨d.toNat, by omega⟩
    have hD : 1 ≤ D ∧ D ≤ 2147483648 := ⟨by omega, by omega⟩
    have HRD := Lib.hid (reduced_int w4 nw D ⟨by omega, by omega⟩ hD (htb.kp HK4.out hp))
    have HSZ := Lib.hid (mk_size nw D ⟨by omega, by omega⟩ hD)
    unfold ratV at HRD
    obtain ⟨q, hq⟩ : ∃ q, q = mkRat nw D := ⟨_, rfl⟩
    rw [← hq] at HRD HSZ
    obtain ⟨sn, hsn⟩ : ∃ sn, sn = numB q := ⟨_, rfl⟩
    obtain ⟨sd, hsd⟩ : ∃ sd, sd = decB q.den := ⟨_, rfl⟩
    rw [← hsn, ← hsd] at HRD
    have HQV : Hid (ratV q = .agg #[.string sn, .string sd]) := Lib.hid (by unfold ratV; rw [← hsn, ← hsd])
    have h5 : 0 ≤ a4 := by omega
    have h6 : a ≤ a4 := by omega
    have h7 : a4 ≤ a + 8 := by omega
    clear hq hsn hsd
    go_wp2_with fail
    refine HRD.out.mono ?_
    rintro e w9 ⟨rfl, hb9⟩
    have KR9 := Lib.hid (KR4.out.below hb9 KR4.out.lt)
    have HK9 := Lib.hid (HK4.out.fresh hb9)
    have HS9 := Lib.hid (HS4.out.fresh hb9)
    clear hb9
    have r0 : w9.cell? ⟨w.heap.size, 0, none⟩ = some (.string ⟨#[]⟩) := KR9.out.cell 0
    have r1 : w9.cell? ⟨w.heap.size, 1, none⟩ = some (.string ⟨#[]⟩) := KR9.out.cell 1
    have fr0 := KR9.out.frozen 0
    have fr1 := KR9.out.frozen 1
    have zpr : p ≠ w.heap.size := by omega
    go_wp2_with fail
    refine bodyPost_ret (v := .agg #[.string sn, .string sd]) ?_ ?_ ?_
    · exact res_cell (p := 2) (ty := 27) (fn := Tryz.f5) rfl _ _ (w.heap.size) 27 #[.string sn, .string sd] _ rfl (blk2' w9 _ 27 _ _ _ _ KR9.out) Tryz.underlying27 rfl rat_size
    · rfl
    have HKE : Keeps (· = p) w ((w9.setCell ⟨w.heap.size, 0, none⟩ (.string sn)).setCell ⟨w.heap.size, 1, none⟩ (.string sd)) := (HK9.out.setCell (p := ⟨w.heap.size, 0, none⟩) (fun h => absurd h (Nat.lt_irrefl _)) _).setCell (p := ⟨w.heap.size, 1, none⟩) (fun h => absurd h (Nat.lt_irrefl _)) _
    exact ⟨q, a4, by rw [HQV.out], HSZ.out, h6, h7, H.out.over HKE ((HS9.out.blk.far (p := ⟨w.heap.size, 0, none⟩) zpr _).far (p := ⟨w.heap.size, 1, none⟩) zpr _) h5, HKE⟩
  · go_wp2_with fail
    refine (long_any _ p A n c l a2 HS2.out (by omega) (htb.kp HK2.out hp) hp).mono ?_
    rintro e w9 ⟨q, a3, rfl, hsz, g5, g6, hs9, hk9⟩
    have KR9 := Lib.hid (hk9.blk KR2.out (by omega))
    have HK9 := Lib.hid (HK2.out.tr hk9)
    have HS9 := Lib.hid hs9
    have HSZ := Lib.hid hsz
    clear hs9 hk9 KR2 HK2 HS2 hsz
    obtain ⟨sn, sd, HQV⟩ : ∃ sn sd, Hid (ratV q = .agg #[.string sn, .string sd]) := ⟨_, _, Lib.hid rfl⟩
    rw [HQV.out]
    have h5 : 0 ≤ a3 := by omega
    have h6 : a ≤ a3 := by omega
    have h7 : a3 ≤ a + 8 := by omega
    have r0 : w9.cell? ⟨w.heap.size, 0, none⟩ = some (.string ⟨#[]⟩) := KR9.out.cell 0
    have r1 : w9.cell? ⟨w.heap.size, 1, none⟩ = some (.string ⟨#[]⟩) := KR9.out.cell 1
    have fr0 := KR9.out.frozen 0
    have fr1 := KR9.out.frozen 1
    have zpr : p ≠ w.heap.size := by omega
    go_wp2_with fail
    refine bodyPost_ret (v := .agg #[.string sn, .string sd]) ?_ ?_ ?_
    · exact res_cell (p := 2) (ty := 27) (fn := Tryz.f5) rfl _ _ (w.heap.size) 27 #[.string sn, .string sd] _ rfl (blk2' w9 _ 27 _ _ _ _ KR9.out) Tryz.underlying27 rfl rat_size
    · rfl
    have HKE : Keeps (· = p) w ((w9.setCell ⟨w.heap.size, 0, none⟩ (.string sn)).setCell ⟨w.heap.size, 1, none⟩ (.string sd)) := (HK9.out.setCell (p := ⟨w.heap.size, 0, none⟩) (fun h => absurd h (Nat.lt_irrefl _)) _).setCell (p := ⟨w.heap.size, 1, none⟩) (fun h => absurd h (Nat.lt_irrefl _)) _
    exact ⟨q, a3, by rw [HQV.out], HSZ.out, h6, h7, H.out.over HKE ((HS9.out.blk.far (p := ⟨w.heap.size, 0, none⟩) zpr _).far (p := ⟨w.heap.size, 1, none⟩) zpr _) h5, HKE⟩
  · have hv0 : ¬ (V : Int) = 0 := by omega
    have hv1 : ¬ (V : Int) = 1 := by omega
    have hv2 : ¬ (V : Int) = 2 := by omega
    have hv3 : ¬ (V : Int) = 3 := by omega
    have HRD := Lib.hid (reduced_int w2 nv 1 ⟨by omega, by omega⟩ ⟨by omega, by omega⟩ (htb.kp HK2.out hp))
    have HSZ := Lib.hid (mk_size nv 1 ⟨by omega, by omega⟩ ⟨by omega, by omega⟩)
    unfold ratV at HRD
    obtain ⟨q, hq⟩ : ∃ q, q = mkRat nv 1 := ⟨_, rfl⟩
    rw [← hq] at HRD HSZ
    obtain ⟨sn, hsn⟩ : ∃ sn, sn = numB q := ⟨_, rfl⟩
    obtain ⟨sd, hsd⟩ : ∃ sd, sd = decB q.den := ⟨_, rfl⟩
    rw [← hsn, ← hsd] at HRD
    have HQV : Hid (ratV q = .agg #[.string sn, .string sd]) := Lib.hid (by unfold ratV; rw [← hsn, ← hsd])
    have h5 : 0 ≤ a2 := by omega
    have h6 : a ≤ a2 := by omega
    have h7 : a2 ≤ a + 8 := by omega
    clear hq hsn hsd
    go_wp2_with fail
    refine HRD.out.mono ?_
    rintro e w9 ⟨rfl, hb9⟩
    have KR9 := Lib.hid (KR2.out.below hb9 KR2.out.lt)
    have HK9 := Lib.hid (HK2.out.fresh hb9)
    have HS9 := Lib.hid (HS2.out.fresh hb9)
    clear hb9
    have r0 : w9.cell? ⟨w.heap.size, 0, none⟩ = some (.string ⟨#[]⟩) := KR9.out.cell 0
    have r1 : w9.cell? ⟨w.heap.size, 1, none⟩ = some (.string ⟨#[]⟩) := KR9.out.cell 1
    have fr0 := KR9.out.frozen 0
    have fr1 := KR9.out.frozen 1
    have zpr : p ≠ w.heap.size := by omega
    go_wp2_with fail
    refine bodyPost_ret (v := .agg #[.string sn, .string sd]) ?_ ?_ ?_
    · exact res_cell (p := 2) (ty := 27) (fn := Tryz.f5) rfl _ _ (w.heap.size) 27 #[.string sn, .string sd] _ rfl (blk2' w9 _ 27 _ _ _ _ KR9.out) Tryz.underlying27 rfl rat_size
    · rfl
    have HKE : Keeps (· = p) w ((w9.setCell ⟨w.heap.size, 0, none⟩ (.string sn)).setCell ⟨w.heap.size, 1, none⟩ (.string sd)) := (HK9.out.setCell (p := ⟨w.heap.size, 0, none⟩) (fun h => absurd h (Nat.lt_irrefl _)) _).setCell (p := ⟨w.heap.size, 1, none⟩) (fun h => absurd h (Nat.lt_irrefl _)) _
    exact ⟨q, a2, by rw [HQV.out], HSZ.out, h6, h7, H.out.over HKE ((HS9.out.blk.far (p := ⟨w.heap.size, 0, none⟩) zpr _).far (p := ⟨w.heap.size, 1, none⟩) zpr _) h5, HKE⟩
end Go.Proofs.YtempdomhbfokmaaGreatDoor

namespace Go.Proofs.YtempdomhbfokmaaGreatDoor
open Go.RowKit

theorem str_made {w : World} {A : Option Addr} {n c : Nat} {l : List Int} (hr : Reads w (fun _ => True) 1 A n (ints l)) (hwf : ∀ x ∈ l, -9223372036854775808 ≤ x ∧ x ≤ 9223372036854775807) (hn : n ≤ 9223372036854775807) :
    Str (w.alloc (.cells #[.slice A n c, .int .i64 0] 25)) w.heap.size A n c l 0 := by
  refine ⟨Blk.new w 25 #[.slice A n c, .int .i64 0], ?_, hwf, hn, Int.le_refl 0⟩
  refine ⟨hr.1, fun h0 => ?_⟩
  obtain ⟨ad, e, hb, -, hc⟩ := hr.2 h0
  have h1 := hr.fresh (w' := w.alloc (.cells #[.slice A n c, .int .i64 0] 25)) ((Below.refl w.heap.size w).alloc (Nat.le_refl _) _)
  obtain ⟨ad', e', hb', -, hc'⟩ := h1.2 h0
  rw [e] at e'
  injection e' with e'
  subst e'
  exact ⟨ad, e, hb', by omega, hc'⟩
set_option maxRecDepth 100000 in
set_option maxHeartbeats 8000000 in
theorem numfield_walk (w : World) (A : Option Addr) (n c : Nat) (l : List Int) (hr : Reads w (fun _ => True) 1 A n (ints l)) (hwf : ∀ x ∈ l, -9223372036854775808 ≤ x ∧ x ≤ 9223372036854775807) (hn : n ≤ 9223372036854775807) (htb : Tb w)
    (hst : ∀ W, Below w.heap.size w W → Calls Tryz.prog 9 #[] W fun e w' => e = .returned (.bool true) ∧ Below W.heap.size W w') :
    Calls Tryz.prog 3 #[.slice A n c] w fun e w' => e = .returned (.bool true) ∧ Below w.heap.size w w' := by
  have HST := Lib.hid hst
  have HS0 := Lib.hid (str_made (c := c) hr hwf hn)
  have HK0 := Lib.hid ((Keeps.refl (· = w.heap.size) w).alloc (.cells #[.slice A n c, .int .i64 0] 25))
  have hne := htb.ne (Nat.le_refl _)
  clear hst hr hwf
  go_enter Tryz.func3, Tryz.ntmps3
  go_wp2_with fail
  refine (srat_any _ w.heap.size A n c l 0 HS0.out (by omega) (htb.kp HK0.out hne) hne).mono ?_
  rintro e w1 ⟨qa, a1, rfl, hza, g0, h0, hs1, hk1⟩
  have HS1 := Lib.hid hs1
  have HK1 := Lib.hid (HK0.out.tr hk1)
  have HZa := Lib.hid hza
  clear hs1 hk1 hza HS0 HK0
  go_wp2_with fail
  refine (srat_any _ w.heap.size A n c l a1 HS1.out (by omega) (htb.kp HK1.out hne) hne).mono ?_
  rintro e w2 ⟨qb, a2, rfl, hzb, g1, h1, hs2, hk2⟩
  have HS2 := Lib.hid hs2
  have HK2 := Lib.hid (HK1.out.tr hk2)
  have HZb := Lib.hid hzb
  clear hs2 hk2 hzb HS1 HK1
  go_wp2_with fail
  refine (srat_any _ w.heap.size A n c l a2 HS2.out (by omega) (htb.kp HK2.out hne) hne).mono ?_
  rintro e w3 ⟨qc, a3, rfl, hzc, g2, h2, hs3, hk3⟩
  have HS3 := Lib.hid hs3
  have HK3 := Lib.hid (HK2.out.tr hk3)
  have HZc := Lib.hid hzc
  clear hs3 hk3 hzc HS2 HK2
  have HTB3 : Hid (Tb w3) := Lib.hid (htb.kp HK3.out hne)
  have HK3' : Hid (Below w.heap.size w w3) := Lib.hid ⟨HK3.out.os, HK3.out.tape, HK3.out.output, HK3.out.size, fun k hk => HK3.out.block k hk (by omega)⟩
  clear HS3 HK3 g0 h0 g1 h1 g2 h2 htb hne
  have e1 : (qa + qb) * qc = qa * qc + qb * qc := Rat.add_mul _ _ _
  have e2 : qa + qb - qb = qa := by rw [Rat.sub_eq_add_neg, Rat.add_assoc, Rat.add_neg_cancel, Rat.add_zero]
  have HOP0 : Hid (∀ W, Below w3.heap.size w3 W → Calls Tryz.prog 6 #[ratV qa, ratV qb] W fun e w' => e = .returned (.tuple #[ratV (qa + qb), .int .i64 0]) ∧ Below W.heap.size W w') := Lib.hid fun W hW => by
    have h := nadd_any W qa qb 1000 (HZa.out.le (by omega)) (HZb.out.le (by omega)) (by omega) (HTB3.out.below hW)
    first | exact h | (rw [← e1] at h; exact h) | (rw [e2] at h; exact h)
  have HOP1 : Hid (∀ W, Below w3.heap.size w3 W → Calls Tryz.prog 7 #[ratV (qa + qb), ratV qc] W fun e w' => e = .returned (.tuple #[ratV ((qa + qb) * qc), .int .i64 0]) ∧ Below W.heap.size W w') := Lib.hid fun W hW => by
    have h := nmul_any W (qa + qb) qc 1000 ((HZa.out.add HZb.out).le (by omega)) (HZc.out.le (by omega)) (by omega) (HTB3.out.below hW)
    first | exact h | (rw [← e1] at h; exact h) | (rw [e2] at h; exact h)
  have HOP2 : Hid (∀ W, Below w3.heap.size w3 W → Calls Tryz.prog 7 #[ratV qa, ratV qc] W fun e w' => e = .returned (.tuple #[ratV (qa * qc), .int .i64 0]) ∧ Below W.heap.size W w') := Lib.hid fun W hW => by
    have h := nmul_any W qa qc 1000 (HZa.out.le (by omega)) (HZc.out.le (by omega)) (by omega) (HTB3.out.below hW)
    first | exact h | (rw [← e1] at h; exact h) | (rw [e2] at h; exact h)
  have HOP3 : Hid (∀ W, Below w3.heap.size w3 W → Calls Tryz.prog 7 #[ratV qb, ratV qc] W fun e w' => e = .returned (.tuple #[ratV (qb * qc), .int .i64 0]) ∧ Below W.heap.size W w') := Lib.hid fun W hW => by
    have h := nmul_any W qb qc 1000 (HZb.out.le (by omega)) (HZc.out.le (by omega)) (by omega) (HTB3.out.below hW)
    first | exact h | (rw [← e1] at h; exact h) | (rw [e2] at h; exact h)
  have HOP4 : Hid (∀ W, Below w3.heap.size w3 W → Calls Tryz.prog 6 #[ratV (qa * qc), ratV (qb * qc)] W fun e w' => e = .returned (.tuple #[ratV ((qa + qb) * qc), .int .i64 0]) ∧ Below W.heap.size W w') := Lib.hid fun W hW => by
    have h := nadd_any W (qa * qc) (qb * qc) 1000 ((HZa.out.mulR HZc.out).le (by omega)) ((HZb.out.mulR HZc.out).le (by omega)) (by omega) (HTB3.out.below hW)
    first | exact h | (rw [← e1] at h; exact h) | (rw [e2] at h; exact h)
  have HOP5 : Hid (∀ W, Below w3.heap.size w3 W → Calls Tryz.prog 8 #[ratV (qa + qb), ratV qb] W fun e w' => e = .returned (.tuple #[ratV qa, .int .i64 0]) ∧ Below W.heap.size W w') := Lib.hid fun W hW => by
    have h := nsub_any W (qa + qb) qb 1000 ((HZa.out.add HZb.out).le (by omega)) (HZb.out.le (by omega)) (by omega) (HTB3.out.below hW)
    first | exact h | (rw [← e1] at h; exact h) | (rw [e2] at h; exact h)
  have HDV : Hid (qc ≠ 0 → ∀ W, Below w3.heap.size w3 W → Calls Tryz.prog 10 #[ratV (qa * qc), ratV qc] W fun e w' => e = .returned (.tuple #[ratV qa, .int .i64 0]) ∧ Below W.heap.size W w') := Lib.hid fun h0 W hW => by
    have h := ndiv_any W (qa * qc) qc 1000 ((HZa.out.mulR HZc.out).le (by omega)) (HZc.out.le (by omega)) (by omega) h0 (HTB3.out.below hW)
    rw [Rat.mul_div_cancel h0] at h
    exact h
  have HZ0 : Hid (qc = 0 → numB qc = ⟨#[48]⟩) := Lib.hid (by rintro rfl; unfold numB; rw [show ngN 0 = false from rfl, show (0 : Rat).num.natAbs = 0 from rfl, decB_0]; rfl)
  have HN0 := Lib.hid (numB_ne0 qc)
  clear e1 e2
  unfold ratV at *
  generalize numB ((qa + qb) * qc) = nm at *
  generalize decB (Rat.den ((qa + qb) * qc)) = dm at *
  generalize numB (qa + qb) = ns at *
  generalize decB (Rat.den (qa + qb)) = ds at *
  generalize numB (qa * qc) = nu at *
  generalize decB (Rat.den (qa * qc)) = du at *
  generalize numB (qb * qc) = nv at *
  generalize decB (Rat.den (qb * qc)) = dv at *
  generalize numB qa = na at *
  generalize decB (Rat.den qa) = da at *
  generalize numB qb = nb at *
  generalize decB (Rat.den qb) = db at *
  generalize numB qc = nc at *
  generalize decB (Rat.den qc) = dc at *
  clear HZa HZb HZc HTB3
  have Ka0 := Lib.hid (((Blk.new w3 27 #[.string na, .string da]).alloc (.cells #[.string nb, .string db] 27)).alloc (.cells #[.string nc, .string dc] 27))
  have kb := (Blk.new (w3.alloc (.cells #[.string na, .string da] 27)) 27 #[.string nb, .string db]).alloc (.cells #[.string nc, .string dc] 27)
  have kc := Blk.new ((w3.alloc (.cells #[.string na, .string da] 27)).alloc (.cells #[.string nb, .string db] 27)) 27 #[.string nc, .string dc]
  have hb0 := (((Below.refl w3.heap.size w3).alloc (Nat.le_refl _) (.cells #[.string na, .string da] 27)).alloc (by simp) (.cells #[.string nb, .string db] 27)).alloc (by simp; omega) (.cells #[.string nc, .string dc] 27)
  simp only [World.size_alloc] at kb kc
  have Kb0 := Lib.hid kb
  have Kc0 := Lib.hid kc
  have HB0 := Lib.hid hb0
  clear kb kc hb0
  go_wp2_with fail
  refine (HOP0.out _ HB0.out).mono ?_
  rintro e W0 ⟨rfl, hb⟩
  have zlt0 := HB0.out.size
  have Ka1 := Lib.hid (((Ka0.out.below hb Ka0.out.lt)).alloc (.cells #[.string ns, .string ds] 27))
  have Ka10 : (W0.alloc (.cells #[.string ns, .string ds] 27)).cell? ⟨w3.heap.size, 0, none⟩ = some (.string na) := Ka1.out.cell 0
  have Ka11 : (W0.alloc (.cells #[.string ns, .string ds] 27)).cell? ⟨w3.heap.size, 1, none⟩ = some (.string da) := Ka1.out.cell 1
  have Kb1 := Lib.hid (((Kb0.out.below hb Kb0.out.lt)).alloc (.cells #[.string ns, .string ds] 27))
  have Kb10 : (W0.alloc (.cells #[.string ns, .string ds] 27)).cell? ⟨w3.heap.size + 1, 0, none⟩ = some (.string nb) := Kb1.out.cell 0
  have Kb11 : (W0.alloc (.cells #[.string ns, .string ds] 27)).cell? ⟨w3.heap.size + 1, 1, none⟩ = some (.string db) := Kb1.out.cell 1
  have Kc1 := Lib.hid (((Kc0.out.below hb Kc0.out.lt)).alloc (.cells #[.string ns, .string ds] 27))
  have Kc10 : (W0.alloc (.cells #[.string ns, .string ds] 27)).cell? ⟨w3.heap.size + 1 + 1, 0, none⟩ = some (.string nc) := Kc1.out.cell 0
  have Kc11 : (W0.alloc (.cells #[.string ns, .string ds] 27)).cell? ⟨w3.heap.size + 1 + 1, 1, none⟩ = some (.string dc) := Kc1.out.cell 1
  have Ks1 := Lib.hid (Blk.new W0 27 #[.string ns, .string ds])
  have Ks10 : (W0.alloc (.cells #[.string ns, .string ds] 27)).cell? ⟨W0.heap.size, 0, none⟩ = some (.string ns) := Ks1.out.cell 0
  have Ks11 : (W0.alloc (.cells #[.string ns, .string ds] 27)).cell? ⟨W0.heap.size, 1, none⟩ = some (.string ds) := Ks1.out.cell 1
  have HB1 := Lib.hid ((HB0.out.trans (hb.mono HB0.out.size)).alloc (Nat.le_trans HB0.out.size hb.size) (.cells #[.string ns, .string ds] 27))
  clear hb HB0 HOP0 Ka0 Kb0 Kc0
  go_wp2_with fail
  refine (HOP1.out _ HB1.out).mono ?_
  rintro e W1 ⟨rfl, hb⟩
  have zlt1 := HB1.out.size
  have Ka2 := Lib.hid (((Ka1.out.below hb Ka1.out.lt)).alloc (.cells #[.string nm, .string dm] 27))
  have Ka20 : (W1.alloc (.cells #[.string nm, .string dm] 27)).cell? ⟨w3.heap.size, 0, none⟩ = some (.string na) := Ka2.out.cell 0
  have Ka21 : (W1.alloc (.cells #[.string nm, .string dm] 27)).cell? ⟨w3.heap.size, 1, none⟩ = some (.string da) := Ka2.out.cell 1
  have Kb2 := Lib.hid (((Kb1.out.below hb Kb1.out.lt)).alloc (.cells #[.string nm, .string dm] 27))
  have Kb20 : (W1.alloc (.cells #[.string nm, .string dm] 27)).cell? ⟨w3.heap.size + 1, 0, none⟩ = some (.string nb) := Kb2.out.cell 0
  have Kb21 : (W1.alloc (.cells #[.string nm, .string dm] 27)).cell? ⟨w3.heap.size + 1, 1, none⟩ = some (.string db) := Kb2.out.cell 1
  have Kc2 := Lib.hid (((Kc1.out.below hb Kc1.out.lt)).alloc (.cells #[.string nm, .string dm] 27))
  have Kc20 : (W1.alloc (.cells #[.string nm, .string dm] 27)).cell? ⟨w3.heap.size + 1 + 1, 0, none⟩ = some (.string nc) := Kc2.out.cell 0
  have Kc21 : (W1.alloc (.cells #[.string nm, .string dm] 27)).cell? ⟨w3.heap.size + 1 + 1, 1, none⟩ = some (.string dc) := Kc2.out.cell 1
  have Ks2 := Lib.hid (((Ks1.out.below hb Ks1.out.lt)).alloc (.cells #[.string nm, .string dm] 27))
  have Ks20 : (W1.alloc (.cells #[.string nm, .string dm] 27)).cell? ⟨W0.heap.size, 0, none⟩ = some (.string ns) := Ks2.out.cell 0
  have Ks21 : (W1.alloc (.cells #[.string nm, .string dm] 27)).cell? ⟨W0.heap.size, 1, none⟩ = some (.string ds) := Ks2.out.cell 1
  have Km2 := Lib.hid (Blk.new W1 27 #[.string nm, .string dm])
  have Km20 : (W1.alloc (.cells #[.string nm, .string dm] 27)).cell? ⟨W1.heap.size, 0, none⟩ = some (.string nm) := Km2.out.cell 0
  have Km21 : (W1.alloc (.cells #[.string nm, .string dm] 27)).cell? ⟨W1.heap.size, 1, none⟩ = some (.string dm) := Km2.out.cell 1
  have HB2 := Lib.hid ((HB1.out.trans (hb.mono HB1.out.size)).alloc (Nat.le_trans HB1.out.size hb.size) (.cells #[.string nm, .string dm] 27))
  clear hb HB1 HOP1 Ka1 Ka10 Ka11 Kb1 Kb10 Kb11 Kc1 Kc10 Kc11 Ks1 Ks10 Ks11
  go_wp2_with fail
  refine (HOP2.out _ HB2.out).mono ?_
  rintro e W2 ⟨rfl, hb⟩
  have zlt2 := HB2.out.size
  have Ka3 := Lib.hid (((Ka2.out.below hb Ka2.out.lt)).alloc (.cells #[.string nu, .string du] 27))
  have Ka30 : (W2.alloc (.cells #[.string nu, .string du] 27)).cell? ⟨w3.heap.size, 0, none⟩ = some (.string na) := Ka3.out.cell 0
  have Ka31 : (W2.alloc (.cells #[.string nu, .string du] 27)).cell? ⟨w3.heap.size, 1, none⟩ = some (.string da) := Ka3.out.cell 1
  have Kb3 := Lib.hid (((Kb2.out.below hb Kb2.out.lt)).alloc (.cells #[.string nu, .string du] 27))
  have Kb30 : (W2.alloc (.cells #[.string nu, .string du] 27)).cell? ⟨w3.heap.size + 1, 0, none⟩ = some (.string nb) := Kb3.out.cell 0
  have Kb31 : (W2.alloc (.cells #[.string nu, .string du] 27)).cell? ⟨w3.heap.size + 1, 1, none⟩ = some (.string db) := Kb3.out.cell 1
  have Kc3 := Lib.hid (((Kc2.out.below hb Kc2.out.lt)).alloc (.cells #[.string nu, .string du] 27))
  have Kc30 : (W2.alloc (.cells #[.string nu, .string du] 27)).cell? ⟨w3.heap.size + 1 + 1, 0, none⟩ = some (.string nc) := Kc3.out.cell 0
  have Kc31 : (W2.alloc (.cells #[.string nu, .string du] 27)).cell? ⟨w3.heap.size + 1 + 1, 1, none⟩ = some (.string dc) := Kc3.out.cell 1
  have Ks3 := Lib.hid (((Ks2.out.below hb Ks2.out.lt)).alloc (.cells #[.string nu, .string du] 27))
  have Ks30 : (W2.alloc (.cells #[.string nu, .string du] 27)).cell? ⟨W0.heap.size, 0, none⟩ = some (.string ns) := Ks3.out.cell 0
  have Ks31 : (W2.alloc (.cells #[.string nu, .string du] 27)).cell? ⟨W0.heap.size, 1, none⟩ = some (.string ds) := Ks3.out.cell 1
  have Km3 := Lib.hid (((Km2.out.below hb Km2.out.lt)).alloc (.cells #[.string nu, .string du] 27))
  have Km30 : (W2.alloc (.cells #[.string nu, .string du] 27)).cell? ⟨W1.heap.size, 0, none⟩ = some (.string nm) := Km3.out.cell 0
  have Km31 : (W2.alloc (.cells #[.string nu, .string du] 27)).cell? ⟨W1.heap.size, 1, none⟩ = some (.string dm) := Km3.out.cell 1
  have Ku3 := Lib.hid (Blk.new W2 27 #[.string nu, .string du])
  have Ku30 : (W2.alloc (.cells #[.string nu, .string du] 27)).cell? ⟨W2.heap.size, 0, none⟩ = some (.string nu) := Ku3.out.cell 0
  have Ku31 : (W2.alloc (.cells #[.string nu, .string du] 27)).cell? ⟨W2.heap.size, 1, none⟩ = some (.string du) := Ku3.out.cell 1
  have HB3 := Lib.hid ((HB2.out.trans (hb.mono HB2.out.size)).alloc (Nat.le_trans HB2.out.size hb.size) (.cells #[.string nu, .string du] 27))
  clear hb HB2 HOP2 Ka2 Ka20 Ka21 Kb2 Kb20 Kb21 Kc2 Kc20 Kc21 Ks2 Ks20 Ks21 Km2 Km20 Km21
  go_wp2_with fail
  refine (HOP3.out _ HB3.out).mono ?_
  rintro e W3 ⟨rfl, hb⟩
  have zlt3 := HB3.out.size
  have Ka4 := Lib.hid (((Ka3.out.below hb Ka3.out.lt)).alloc (.cells #[.string nv, .string dv] 27))
  have Ka40 : (W3.alloc (.cells #[.string nv, .string dv] 27)).cell? ⟨w3.heap.size, 0, none⟩ = some (.string na) := Ka4.out.cell 0
  have Ka41 : (W3.alloc (.cells #[.string nv, .string dv] 27)).cell? ⟨w3.heap.size, 1, none⟩ = some (.string da) := Ka4.out.cell 1
  have Kb4 := Lib.hid (((Kb3.out.below hb Kb3.out.lt)).alloc (.cells #[.string nv, .string dv] 27))
  have Kb40 : (W3.alloc (.cells #[.string nv, .string dv] 27)).cell? ⟨w3.heap.size + 1, 0, none⟩ = some (.string nb) := Kb4.out.cell 0
  have Kb41 : (W3.alloc (.cells #[.string nv, .string dv] 27)).cell? ⟨w3.heap.size + 1, 1, none⟩ = some (.string db) := Kb4.out.cell 1
  have Kc4 := Lib.hid (((Kc3.out.below hb Kc3.out.lt)).alloc (.cells #[.string nv, .string dv] 27))
  have Kc40 : (W3.alloc (.cells #[.string nv, .string dv] 27)).cell? ⟨w3.heap.size + 1 + 1, 0, none⟩ = some (.string nc) := Kc4.out.cell 0
  have Kc41 : (W3.alloc (.cells #[.string nv, .string dv] 27)).cell? ⟨w3.heap.size + 1 + 1, 1, none⟩ = some (.string dc) := Kc4.out.cell 1
  have Ks4 := Lib.hid (((Ks3.out.below hb Ks3.out.lt)).alloc (.cells #[.string nv, .string dv] 27))
  have Ks40 : (W3.alloc (.cells #[.string nv, .string dv] 27)).cell? ⟨W0.heap.size, 0, none⟩ = some (.string ns) := Ks4.out.cell 0
  have Ks41 : (W3.alloc (.cells #[.string nv, .string dv] 27)).cell? ⟨W0.heap.size, 1, none⟩ = some (.string ds) := Ks4.out.cell 1
  have Km4 := Lib.hid (((Km3.out.below hb Km3.out.lt)).alloc (.cells #[.string nv, .string dv] 27))
  have Km40 : (W3.alloc (.cells #[.string nv, .string dv] 27)).cell? ⟨W1.heap.size, 0, none⟩ = some (.string nm) := Km4.out.cell 0
  have Km41 : (W3.alloc (.cells #[.string nv, .string dv] 27)).cell? ⟨W1.heap.size, 1, none⟩ = some (.string dm) := Km4.out.cell 1
  have Ku4 := Lib.hid (((Ku3.out.below hb Ku3.out.lt)).alloc (.cells #[.string nv, .string dv] 27))
  have Ku40 : (W3.alloc (.cells #[.string nv, .string dv] 27)).cell? ⟨W2.heap.size, 0, none⟩ = some (.string nu) := Ku4.out.cell 0
  have Ku41 : (W3.alloc (.cells #[.string nv, .string dv] 27)).cell? ⟨W2.heap.size, 1, none⟩ = some (.string du) := Ku4.out.cell 1
  have Kv4 := Lib.hid (Blk.new W3 27 #[.string nv, .string dv])
  have Kv40 : (W3.alloc (.cells #[.string nv, .string dv] 27)).cell? ⟨W3.heap.size, 0, none⟩ = some (.string nv) := Kv4.out.cell 0
  have Kv41 : (W3.alloc (.cells #[.string nv, .string dv] 27)).cell? ⟨W3.heap.size, 1, none⟩ = some (.string dv) := Kv4.out.cell 1
  have HB4 := Lib.hid ((HB3.out.trans (hb.mono HB3.out.size)).alloc (Nat.le_trans HB3.out.size hb.size) (.cells #[.string nv, .string dv] 27))
  clear hb HB3 HOP3 Ka3 Ka30 Ka31 Kb3 Kb30 Kb31 Kc3 Kc30 Kc31 Ks3 Ks30 Ks31 Km3 Km30 Km31 Ku3 Ku30 Ku31
  go_wp2_with fail
  refine (HOP4.out _ HB4.out).mono ?_
  rintro e W4 ⟨rfl, hb⟩
  have zlt4 := HB4.out.size
  have Ka5 := Lib.hid (((Ka4.out.below hb Ka4.out.lt)).alloc (.cells #[.string nm, .string dm] 27))
  have Ka50 : (W4.alloc (.cells #[.string nm, .string dm] 27)).cell? ⟨w3.heap.size, 0, none⟩ = some (.string na) := Ka5.out.cell 0
  have Ka51 : (W4.alloc (.cells #[.string nm, .string dm] 27)).cell? ⟨w3.heap.size, 1, none⟩ = some (.string da) := Ka5.out.cell 1
  have Kb5 := Lib.hid (((Kb4.out.below hb Kb4.out.lt)).alloc (.cells #[.string nm, .string dm] 27))
  have Kb50 : (W4.alloc (.cells #[.string nm, .string dm] 27)).cell? ⟨w3.heap.size + 1, 0, none⟩ = some (.string nb) := Kb5.out.cell 0
  have Kb51 : (W4.alloc (.cells #[.string nm, .string dm] 27)).cell? ⟨w3.heap.size + 1, 1, none⟩ = some (.string db) := Kb5.out.cell 1
  have Kc5 := Lib.hid (((Kc4.out.below hb Kc4.out.lt)).alloc (.cells #[.string nm, .string dm] 27))
  have Kc50 : (W4.alloc (.cells #[.string nm, .string dm] 27)).cell? ⟨w3.heap.size + 1 + 1, 0, none⟩ = some (.string nc) := Kc5.out.cell 0
  have Kc51 : (W4.alloc (.cells #[.string nm, .string dm] 27)).cell? ⟨w3.heap.size + 1 + 1, 1, none⟩ = some (.string dc) := Kc5.out.cell 1
  have Ks5 := Lib.hid (((Ks4.out.below hb Ks4.out.lt)).alloc (.cells #[.string nm, .string dm] 27))
  have Ks50 : (W4.alloc (.cells #[.string nm, .string dm] 27)).cell? ⟨W0.heap.size, 0, none⟩ = some (.string ns) := Ks5.out.cell 0
  have Ks51 : (W4.alloc (.cells #[.string nm, .string dm] 27)).cell? ⟨W0.heap.size, 1, none⟩ = some (.string ds) := Ks5.out.cell 1
  have Km5 := Lib.hid (((Km4.out.below hb Km4.out.lt)).alloc (.cells #[.string nm, .string dm] 27))
  have Km50 : (W4.alloc (.cells #[.string nm, .string dm] 27)).cell? ⟨W1.heap.size, 0, none⟩ = some (.string nm) := Km5.out.cell 0
  have Km51 : (W4.alloc (.cells #[.string nm, .string dm] 27)).cell? ⟨W1.heap.size, 1, none⟩ = some (.string dm) := Km5.out.cell 1
  have Ku5 := Lib.hid (((Ku4.out.below hb Ku4.out.lt)).alloc (.cells #[.string nm, .string dm] 27))
  have Ku50 : (W4.alloc (.cells #[.string nm, .string dm] 27)).cell? ⟨W2.heap.size, 0, none⟩ = some (.string nu) := Ku5.out.cell 0
  have Ku51 : (W4.alloc (.cells #[.string nm, .string dm] 27)).cell? ⟨W2.heap.size, 1, none⟩ = some (.string du) := Ku5.out.cell 1
  have Kv5 := Lib.hid (((Kv4.out.below hb Kv4.out.lt)).alloc (.cells #[.string nm, .string dm] 27))
  have Kv50 : (W4.alloc (.cells #[.string nm, .string dm] 27)).cell? ⟨W3.heap.size, 0, none⟩ = some (.string nv) := Kv5.out.cell 0
  have Kv51 : (W4.alloc (.cells #[.string nm, .string dm] 27)).cell? ⟨W3.heap.size, 1, none⟩ = some (.string dv) := Kv5.out.cell 1
  have Kn5 := Lib.hid (Blk.new W4 27 #[.string nm, .string dm])
  have Kn50 : (W4.alloc (.cells #[.string nm, .string dm] 27)).cell? ⟨W4.heap.size, 0, none⟩ = some (.string nm) := Kn5.out.cell 0
  have Kn51 : (W4.alloc (.cells #[.string nm, .string dm] 27)).cell? ⟨W4.heap.size, 1, none⟩ = some (.string dm) := Kn5.out.cell 1
  have HB5 := Lib.hid ((HB4.out.trans (hb.mono HB4.out.size)).alloc (Nat.le_trans HB4.out.size hb.size) (.cells #[.string nm, .string dm] 27))
  clear hb HB4 HOP4 Ka4 Ka40 Ka41 Kb4 Kb40 Kb41 Kc4 Kc40 Kc41 Ks4 Ks40 Ks41 Km4 Km40 Km41 Ku4 Ku40 Ku41 Kv4 Kv40 Kv41
  go_wp2_with fail
  refine (HOP5.out _ HB5.out).mono ?_
  rintro e W5 ⟨rfl, hb⟩
  have zlt5 := HB5.out.size
  have Ka6 := Lib.hid (((Ka5.out.below hb Ka5.out.lt)).alloc (.cells #[.string na, .string da] 27))
  have Ka60 : (W5.alloc (.cells #[.string na, .string da] 27)).cell? ⟨w3.heap.size, 0, none⟩ = some (.string na) := Ka6.out.cell 0
  have Ka61 : (W5.alloc (.cells #[.string na, .string da] 27)).cell? ⟨w3.heap.size, 1, none⟩ = some (.string da) := Ka6.out.cell 1
  have Kb6 := Lib.hid (((Kb5.out.below hb Kb5.out.lt)).alloc (.cells #[.string na, .string da] 27))
  have Kb60 : (W5.alloc (.cells #[.string na, .string da] 27)).cell? ⟨w3.heap.size + 1, 0, none⟩ = some (.string nb) := Kb6.out.cell 0
  have Kb61 : (W5.alloc (.cells #[.string na, .string da] 27)).cell? ⟨w3.heap.size + 1, 1, none⟩ = some (.string db) := Kb6.out.cell 1
  have Kc6 := Lib.hid (((Kc5.out.below hb Kc5.out.lt)).alloc (.cells #[.string na, .string da] 27))
  have Kc60 : (W5.alloc (.cells #[.string na, .string da] 27)).cell? ⟨w3.heap.size + 1 + 1, 0, none⟩ = some (.string nc) := Kc6.out.cell 0
  have Kc61 : (W5.alloc (.cells #[.string na, .string da] 27)).cell? ⟨w3.heap.size + 1 + 1, 1, none⟩ = some (.string dc) := Kc6.out.cell 1
  have Ks6 := Lib.hid (((Ks5.out.below hb Ks5.out.lt)).alloc (.cells #[.string na, .string da] 27))
  have Ks60 : (W5.alloc (.cells #[.string na, .string da] 27)).cell? ⟨W0.heap.size, 0, none⟩ = some (.string ns) := Ks6.out.cell 0
  have Ks61 : (W5.alloc (.cells #[.string na, .string da] 27)).cell? ⟨W0.heap.size, 1, none⟩ = some (.string ds) := Ks6.out.cell 1
  have Km6 := Lib.hid (((Km5.out.below hb Km5.out.lt)).alloc (.cells #[.string na, .string da] 27))
  have Km60 : (W5.alloc (.cells #[.string na, .string da] 27)).cell? ⟨W1.heap.size, 0, none⟩ = some (.string nm) := Km6.out.cell 0
  have Km61 : (W5.alloc (.cells #[.string na, .string da] 27)).cell? ⟨W1.heap.size, 1, none⟩ = some (.string dm) := Km6.out.cell 1
  have Ku6 := Lib.hid (((Ku5.out.below hb Ku5.out.lt)).alloc (.cells #[.string na, .string da] 27))
  have Ku60 : (W5.alloc (.cells #[.string na, .string da] 27)).cell? ⟨W2.heap.size, 0, none⟩ = some (.string nu) := Ku6.out.cell 0
  have Ku61 : (W5.alloc (.cells #[.string na, .string da] 27)).cell? ⟨W2.heap.size, 1, none⟩ = some (.string du) := Ku6.out.cell 1
  have Kv6 := Lib.hid (((Kv5.out.below hb Kv5.out.lt)).alloc (.cells #[.string na, .string da] 27))
  have Kv60 : (W5.alloc (.cells #[.string na, .string da] 27)).cell? ⟨W3.heap.size, 0, none⟩ = some (.string nv) := Kv6.out.cell 0
  have Kv61 : (W5.alloc (.cells #[.string na, .string da] 27)).cell? ⟨W3.heap.size, 1, none⟩ = some (.string dv) := Kv6.out.cell 1
  have Kn6 := Lib.hid (((Kn5.out.below hb Kn5.out.lt)).alloc (.cells #[.string na, .string da] 27))
  have Kn60 : (W5.alloc (.cells #[.string na, .string da] 27)).cell? ⟨W4.heap.size, 0, none⟩ = some (.string nm) := Kn6.out.cell 0
  have Kn61 : (W5.alloc (.cells #[.string na, .string da] 27)).cell? ⟨W4.heap.size, 1, none⟩ = some (.string dm) := Kn6.out.cell 1
  have Kt6 := Lib.hid (Blk.new W5 27 #[.string na, .string da])
  have Kt60 : (W5.alloc (.cells #[.string na, .string da] 27)).cell? ⟨W5.heap.size, 0, none⟩ = some (.string na) := Kt6.out.cell 0
  have Kt61 : (W5.alloc (.cells #[.string na, .string da] 27)).cell? ⟨W5.heap.size, 1, none⟩ = some (.string da) := Kt6.out.cell 1
  have HB6 := Lib.hid ((HB5.out.trans (hb.mono HB5.out.size)).alloc (Nat.le_trans HB5.out.size hb.size) (.cells #[.string na, .string da] 27))
  clear hb HB5 HOP5 Ka5 Ka50 Ka51 Kb5 Kb50 Kb51 Kc5 Kc50 Kc51 Ks5 Ks50 Ks51 Km5 Km50 Km51 Ku5 Ku50 Ku51 Kv5 Kv50 Kv51 Kn5 Kn50 Kn51
  go_wp2_with fail
  refine (HST.out _ (HK3'.out.trans (HB6.out.mono HK3'.out.size))).mono ?_
  rintro e X ⟨rfl, hb⟩
  have Ka7 := Lib.hid (Ka6.out.below hb Ka6.out.lt)
  have Ka70 : X.cell? ⟨w3.heap.size, 0, none⟩ = some (.string na) := Ka7.out.cell 0
  have Ka71 : X.cell? ⟨w3.heap.size, 1, none⟩ = some (.string da) := Ka7.out.cell 1
  have Kb7 := Lib.hid (Kb6.out.below hb Kb6.out.lt)
  have Kb70 : X.cell? ⟨w3.heap.size + 1, 0, none⟩ = some (.string nb) := Kb7.out.cell 0
  have Kb71 : X.cell? ⟨w3.heap.size + 1, 1, none⟩ = some (.string db) := Kb7.out.cell 1
  have Kc7 := Lib.hid (Kc6.out.below hb Kc6.out.lt)
  have Kc70 : X.cell? ⟨w3.heap.size + 1 + 1, 0, none⟩ = some (.string nc) := Kc7.out.cell 0
  have Kc71 : X.cell? ⟨w3.heap.size + 1 + 1, 1, none⟩ = some (.string dc) := Kc7.out.cell 1
  have Ks7 := Lib.hid (Ks6.out.below hb Ks6.out.lt)
  have Ks70 : X.cell? ⟨W0.heap.size, 0, none⟩ = some (.string ns) := Ks7.out.cell 0
  have Ks71 : X.cell? ⟨W0.heap.size, 1, none⟩ = some (.string ds) := Ks7.out.cell 1
  have Km7 := Lib.hid (Km6.out.below hb Km6.out.lt)
  have Km70 : X.cell? ⟨W1.heap.size, 0, none⟩ = some (.string nm) := Km7.out.cell 0
  have Km71 : X.cell? ⟨W1.heap.size, 1, none⟩ = some (.string dm) := Km7.out.cell 1
  have Ku7 := Lib.hid (Ku6.out.below hb Ku6.out.lt)
  have Ku70 : X.cell? ⟨W2.heap.size, 0, none⟩ = some (.string nu) := Ku7.out.cell 0
  have Ku71 : X.cell? ⟨W2.heap.size, 1, none⟩ = some (.string du) := Ku7.out.cell 1
  have Kv7 := Lib.hid (Kv6.out.below hb Kv6.out.lt)
  have Kv70 : X.cell? ⟨W3.heap.size, 0, none⟩ = some (.string nv) := Kv7.out.cell 0
  have Kv71 : X.cell? ⟨W3.heap.size, 1, none⟩ = some (.string dv) := Kv7.out.cell 1
  have Kn7 := Lib.hid (Kn6.out.below hb Kn6.out.lt)
  have Kn70 : X.cell? ⟨W4.heap.size, 0, none⟩ = some (.string nm) := Kn7.out.cell 0
  have Kn71 : X.cell? ⟨W4.heap.size, 1, none⟩ = some (.string dm) := Kn7.out.cell 1
  have Kt7 := Lib.hid (Kt6.out.below hb Kt6.out.lt)
  have Kt70 : X.cell? ⟨W5.heap.size, 0, none⟩ = some (.string na) := Kt7.out.cell 0
  have Kt71 : X.cell? ⟨W5.heap.size, 1, none⟩ = some (.string da) := Kt7.out.cell 1
  have HB7 := Lib.hid (HB6.out.trans (hb.mono HB6.out.size))
  have HW7 := Lib.hid (HK3'.out.trans (HB7.out.mono HK3'.out.size))
  clear hb HB6 HST HK3' Ka6 Ka60 Ka61 Kb6 Kb60 Kb61 Kc6 Kc60 Kc61 Ks6 Ks60 Ks61 Km6 Km60 Km61 Ku6 Ku60 Ku61 Kv6 Kv60 Kv61 Kn6 Kn60 Kn61 Kt6 Kt60 Kt61
  by_cases hc : qc = 0
  · have hn := HZ0.out hc
    subst hn
    clear HDV HN0 HZ0 hc
    go_wp2_with fail
    go_ret
    exact ⟨rfl, HW7.out⟩
  · have hn := HN0.out hc
    have hn' : (nc.toList == [48]) = false := by simpa using hn
    have HD := Lib.hid (HDV.out hc X HB7.out)
    clear HDV HN0 HZ0 hc
    go_wp2_with fail
    refine HD.out.mono ?_
    rintro e Y ⟨rfl, hb⟩
    have Ka8 := Lib.hid (((Ka7.out.below hb Ka7.out.lt)).alloc (.cells #[.string na, .string da] 27))
    have Ka80 : (Y.alloc (.cells #[.string na, .string da] 27)).cell? ⟨w3.heap.size, 0, none⟩ = some (.string na) := Ka8.out.cell 0
    have Ka81 : (Y.alloc (.cells #[.string na, .string da] 27)).cell? ⟨w3.heap.size, 1, none⟩ = some (.string da) := Ka8.out.cell 1
    have HW8 := Lib.hid ((HW7.out.trans (hb.mono HW7.out.size)).alloc (Nat.le_trans HW7.out.size hb.size) (.cells #[.string na, .string da] 27))
    clear hb HD HW7
    go_wp2_with fail
    go_ret
    exact ⟨rfl, HW8.out⟩
end Go.Proofs.YtempdomhbfokmaaGreatDoor

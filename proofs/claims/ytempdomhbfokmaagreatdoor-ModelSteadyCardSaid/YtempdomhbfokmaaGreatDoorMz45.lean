/- strings.Builder: WriteString. nat: String. frac: Rat, Quotient; num.Make. -/
import Derived.Test.YtempdomhbfokmaaGreatDoorMz43
import Derived.Test.YtempdomhbfokmaaGreatDoorMz44
import Derived.Laws.Externs
import Derived.Test.YtempdomhbfokmaaGreatDoorRows
import Derived.Lib.Builder
import Derived.Lib.AppendStr
namespace Go.Proofs.YtempdomhbfokmaaGreatDoor
open Go.RowKit

theorem builder_size : (Tryz.prog.info? 143).map (·.size) = some 2 := by kernel_rfl
theorem builder_lies : liesAt Tryz.prog Tryz.prog.depth 143 (2 / Tryz.prog.cellsOf 143) 0 143 1 = true := by kernel_rfl
set_option maxRecDepth 100000 in
set_option maxHeartbeats 1000000 in
theorem copyCheck_fresh (b : Nat) (w : World) (h0 : w.cell? ⟨b, 0, none⟩ = some (.pointer none)) (hsh : w.shape? b = some (143, 2)) (hfz : w.frozen? ⟨b, 0, none⟩ = false) :
    Calls Tryz.prog 135 #[.pointer (some ⟨b, 0, none⟩)] w fun e w' => e = .returned (.tuple #[]) ∧ w' = w.setCell ⟨b, 0, none⟩ (.pointer (some ⟨b, 0, none⟩)) := by
  obtain ⟨j, hj, hjs⟩ := Option.map_eq_some_iff.1 builder_size
  go_enter Tryz.func135, Tryz.ntmps135
  go_wp2_with fail
  rw [Lib.run_to_unsafe w ⟨b, 0, none⟩ Tryz.underlying141 Tryz.underlying220 hj (by rw [hjs]; decide) hsh (Nat.zero_lt_succ 1)]
  simp only [Result.andThen]
  rw [Oper.upon_value]
  go_wp2_with fail
  rw [run_callFunc_extern Tryz.func178 (by kernel_rfl) (by kernel_rfl) (by kernel_rfl) (e := Extern.AbiNoEscape.same) (by kernel_rfl)]
  rw [Lib.run_noEscape]
  simp only [Result.andThen]
  rw [Oper.upon_value]
  go_wp2_with fail
  rw [Lib.run_from_unsafe w ⟨b, 0, none⟩ Tryz.underlying220 Tryz.underlying141 hj hsh builder_lies]
  simp only [Result.andThen]
  rw [Oper.upon_value]
  go_wp2_with fail
  go_end0
  exact ⟨rfl, rfl⟩
set_option maxRecDepth 100000 in
set_option maxHeartbeats 1000000 in
theorem copyCheck_used (b : Nat) (w : World) (h0 : w.cell? ⟨b, 0, none⟩ = some (.pointer (some ⟨b, 0, none⟩))) :
    Calls Tryz.prog 135 #[.pointer (some ⟨b, 0, none⟩)] w fun e w' => e = .returned (.tuple #[]) ∧ w' = w := by
  go_enter Tryz.func135, Tryz.ntmps135
  go_wp2_with fail
  obtain ⟨j, hj, hjs⟩ := Option.map_eq_some_iff.1 builder_size
  rw [Lib.run_neq_ptr_same _ ⟨b, 0, none⟩ Tryz.underlying141 hj]
  simp only [Result.andThen]
  rw [Oper.upon_value]
  go_wp2_with fail
  go_end0
  exact ⟨rfl, rfl⟩
set_option maxRecDepth 100000 in
set_option maxHeartbeats 2000000 in
theorem writeString_fresh (B b : Nat) (s : ByteArray) (w : World) (h : Lib.BuilderAt 143 5 B b (.pointer none) [] w) (hlen : s.size ≤ 140737488355328) (hBw : B ≤ w.heap.size) :
    Calls Tryz.prog 99 #[.pointer (some ⟨b, 0, none⟩), .string s] w fun e w' => e = .returned (.tuple #[.int .i64 s.size, .nilIface]) ∧ (Lib.BuilderAt 143 5 B b (.pointer (some ⟨b, 0, none⟩)) (Lib.strCells s) w' ∧ Below B w w') := by
  obtain ⟨i0, hi, hz0, hz1, hz2⟩ := info_parts u8_info
  go_enter Tryz.func99, Tryz.ntmps99
  go_wp2_with fail
  refine (copyCheck_fresh b w h.cell0 h.shape h.frozen0).mono ?_
  rintro e w1 ⟨rfl, rfl⟩
  obtain ⟨hB, v, hbk, hown, hne⟩ := h.used (.pointer (some ⟨b, 0, none⟩))
  have hb1 : Below B w (w.setCell ⟨b, 0, none⟩ (.pointer (some ⟨b, 0, none⟩))) := (Below.refl B w).setCell (p := ⟨b, 0, none⟩) h.1 _
  generalize w.setCell ⟨b, 0, none⟩ (.pointer (some ⟨b, 0, none⟩)) = w1 at *
  have c1 : w1.cell? ⟨b, 1, none⟩ = some v := by rw [Lib.cell_of_heap hbk]; rfl
  go_wp2_with (at_builtin; refine Lib.wpList_append_own_string _ rfl _ _ 76 9 rfl B 5 i0 Tryz.underlying76 Tryz.underlying9 hi hz0 hz1 hz2 _ _ _ rfl hown s rfl ?c3 ?c4 ?c5 ?_)
  case c3 => unfold maxLen; simp; omega
  case c4 => simp; omega
  case c5 => have := hb1.size; omega
  intro v' w2 hown' hgrow _
  have hlt : b < w1.heap.size := by
    rcases Nat.lt_or_ge b w1.heap.size with h' | h'
    · exact h'
    · simp [Array.getElem?_eq_none h'] at hbk
  have hb2 : w2.heap[b]? = some (.cells #[.pointer (some ⟨b, 0, none⟩), v] 143 (0, 0)) := by
    rw [hgrow.block b hlt (fun e => hne e.symm)]
    exact hbk
  have d1 : w2.cell? ⟨b, 1, none⟩ = some v := by rw [Lib.cell_of_heap hb2]; rfl
  have f1 : w2.frozen? ⟨b, 1, none⟩ = false := Lib.frozen_of_heap hb2 1
  obtain ⟨ao, n', cap, rfl⟩ : ∃ ao n' cap, v' = .slice ao n' cap := by
    rcases hown'.2 with ⟨hv, _⟩ | ⟨g, cap, cur, hv, _⟩
    · exact ⟨_, _, _, hv⟩
    · exact ⟨_, _, _, hv⟩
  go_wp2_with fail
  go_ret2
  refine ⟨rfl, ?_, ?_⟩
  · exact Lib.BuilderAt.put (T := 143) (e := 5) hB hb2 (bs' := Lib.strCells s) (by simpa [Lib.strCells_length] using hown') (by decide)
  · exact (hb1.grown hgrow (by have := hb1.size; omega) (fun k hk => (hown.lt k hk).1)).setCell (p := ⟨b, 1, none⟩) hB _

set_option maxRecDepth 100000 in
set_option maxHeartbeats 2000000 in
theorem writeString_used (B b : Nat) (bs : List Value) (s : ByteArray) (w : World) (h : Lib.BuilderAt 143 5 B b (.pointer (some ⟨b, 0, none⟩)) bs w) (hlen : bs.length + s.size ≤ 140737488355328) (hBw : B ≤ w.heap.size) :
    Calls Tryz.prog 99 #[.pointer (some ⟨b, 0, none⟩), .string s] w fun e w' => e = .returned (.tuple #[.int .i64 s.size, .nilIface]) ∧ (Lib.BuilderAt 143 5 B b (.pointer (some ⟨b, 0, none⟩)) (bs ++ Lib.strCells s) w' ∧ Below B w w') := by
  obtain ⟨i0, hi, hz0, hz1, hz2⟩ := info_parts u8_info
  go_enter Tryz.func99, Tryz.ntmps99
  go_wp2_with fail
  refine (copyCheck_used b w h.cell0).mono ?_
  rintro e w1 ⟨rfl, hw1⟩
  obtain ⟨hB, v, hbk, hown, hne⟩ := h
  have hb1 : Below B w w1 := by rw [hw1]; exact Below.refl B w
  rw [← hw1] at hbk hown
  clear hw1
  have c1 : w1.cell? ⟨b, 1, none⟩ = some v := by rw [Lib.cell_of_heap hbk]; rfl
  go_wp2_with (at_builtin; refine Lib.wpList_append_own_string _ rfl _ _ 76 9 rfl B 5 i0 Tryz.underlying76 Tryz.underlying9 hi hz0 hz1 hz2 _ _ _ rfl hown s rfl ?c3 ?c4 ?c5 ?_)
  case c3 => unfold maxLen; omega
  case c4 => omega
  case c5 => have := hb1.size; omega
  intro v' w2 hown' hgrow _
  have hlt : b < w1.heap.size := by
    rcases Nat.lt_or_ge b w1.heap.size with h' | h'
    · exact h'
    · simp [Array.getElem?_eq_none h'] at hbk
  have hb2 : w2.heap[b]? = some (.cells #[.pointer (some ⟨b, 0, none⟩), v] 143 (0, 0)) := by
    rw [hgrow.block b hlt (fun e => hne e.symm)]
    exact hbk
  have d1 : w2.cell? ⟨b, 1, none⟩ = some v := by rw [Lib.cell_of_heap hb2]; rfl
  have f1 : w2.frozen? ⟨b, 1, none⟩ = false := Lib.frozen_of_heap hb2 1
  obtain ⟨ao, n', cap, rfl⟩ : ∃ ao n' cap, v' = .slice ao n' cap := by
    rcases hown'.2 with ⟨hv, _⟩ | ⟨g, cap, cur, hv, _⟩
    · exact ⟨_, _, _, hv⟩
    · exact ⟨_, _, _, hv⟩
  go_wp2_with fail
  go_ret2
  refine ⟨rfl, ?_, ?_⟩
  · exact Lib.BuilderAt.put (T := 143) (e := 5) hB hb2 (bs' := bs ++ Lib.strCells s) (by simpa [Lib.strCells_length] using hown') (by decide)
  · exact (hb1.grown hgrow (by have := hb1.size; omega) (fun k hk => (hown.lt k hk).1)).setCell (p := ⟨b, 1, none⟩) hB _

end Go.Proofs.YtempdomhbfokmaaGreatDoor

namespace Go.Proofs.YtempdomhbfokmaaGreatDoor
open Go.RowKit

/-- the text of a number -/
def decB (n : Nat) : ByteArray := ⟨(Lib.decDigits n).toArray⟩
theorem decB_list (n : Nat) : (decB n).data.toList = Lib.decDigits n := by simp [decB]
theorem decB_size (n : Nat) : (decB n).size = Lib.nDigits n := by simp [decB, ByteArray.size, Lib.decDigits_length]
theorem builder_new (w : World) : Lib.BuilderAt 143 5 w.heap.size w.heap.size (.pointer none) [] (w.alloc (.cells #[.pointer none, .slice none 0 0] 143)) := by
  rcases Lib.fresh_isBuilder 143 5 w with h | h
  · exact h
  · have := h.cell0
    rw [Blk.cell (Blk.new w 143 #[.pointer none, .slice none 0 0]) 0] at this
    simp at this
theorem builder_fresh {w w' : World} {t e : TypeId} {B b : Nat} {p : Value} {bs : List Value} (h : Lib.BuilderAt t e B b p bs w) (hb : Below w.heap.size w w') : Lib.BuilderAt t e B b p bs w' := by
  have hl := h.lt
  obtain ⟨h1, v, h2, h3, h4⟩ := h
  refine ⟨h1, v, (hb.block b hl).trans h2, ⟨h3.1, ?_⟩, h4⟩
  rcases h3.2 with h5 | ⟨g, cap, cur, hv, hg, hh, r⟩
  · exact .inl h5
  · have hlt : g < w.heap.size := by
      rcases Nat.lt_or_ge g w.heap.size with h | h
      · exact h
      · rw [Array.getElem?_eq_none h] at hh; cases hh
    exact .inr ⟨g, cap, cur, hv, hg, by rw [hb.block g hlt]; exact hh, r⟩
theorem succ_ne_zero' (m : Nat) : ((m : Int) + 1 == 0) = false := beq_eq_false_iff_ne.2 (by omega)
theorem val_drop (l : List Nat) (k : Nat) (h : k < l.length) : val (l.drop k) = l[k] + BB * val (l.drop (k + 1)) := by rw [List.drop_eq_getElem_cons h, val]
theorem val_drop_pos (l : List Nat) (k : Nat) (hn : Nrm l) (h : k < l.length) : 0 < val (l.drop k) := by
  have h1 := hn (by omega)
  have h2 := val_split (l.drop k) (l.length - 1 - k) (by rw [List.length_drop]; omega)
  rw [List.drop_drop, show k + (l.length - 1 - k) = l.length - 1 from by omega, val_drop l (l.length - 1) (by omega)] at h2
  have h3 : 0 < BB ^ (l.length - 1 - k) * (l[l.length - 1] + BB * val (l.drop (l.length - 1 + 1))) := Nat.mul_pos (Nat.pow_pos BB_pos) (by omega)
  omega
theorem repeat_zero (k : Nat) : Lib.repeatL [48] k = List.replicate k 48 := by
  induction k with
  | zero => rfl
  | succ k ih => rw [Lib.repeatL, ih, List.replicate_succ]; rfl
theorem pad_text (d : Nat) (hd : d < BB) : (⟨(Lib.repeatL (#[48] : Array UInt8).toList (9 - Lib.nDigits d)).toArray⟩ : ByteArray) ++ decB d = ⟨(padD 9 d).toArray⟩ := by
  have h9 : Lib.nDigits d ≤ 9 := nDigits_le 9 d (by rw [← BB_pow]; exact hd) (by omega)
  rw [padD_eq 9 d h9]
  have e : Lib.repeatL (#[48] : Array UInt8).toList (9 - Lib.nDigits d) = List.replicate (9 - Lib.nDigits d) 48 := repeat_zero _
  rw [e]
  apply ByteArray.ext
  simp [decB]
theorem cells_app (L : List UInt8) (s : ByteArray) : Lib.byteCells L ++ Lib.strCells s = Lib.byteCells (L ++ s.data.toList) := by simp [Lib.byteCells, Lib.strCells]
set_option maxRecDepth 100000 in
set_option maxHeartbeats 8000000 in
theorem string_any (w : World) (T : Nat → Prop) (v : Value) (n : Nat) (h : NatR w T v n) (hl : (ofN n).length ≤ 100000) (htb : Tb w) :
    Calls Tryz.prog 73 #[v] w fun e w' => e = .returned (.string (decB n)) ∧ Below w.heap.size w w' := by
  have HN := Lib.hid (ofN_length_zero n)
  have HV := Lib.hid (val_ofN n)
  have HD := Lib.hid (digs_ofN n)
  have HNR := Lib.hid (nrm_ofN n)
  obtain ⟨A, c, rfl, hr, l1, m1, -⟩ := h.old
  have HR := Lib.hid hr
  generalize ofN n = l at *
  clear h hr
  by_cases h0 : l.length = 0
  · have hn := HN.out.1 h0
    have HE : Hid (decB n = ⟨#[48]⟩) := Lib.hid (by rw [hn]; unfold decB; rw [Lib.decDigits_one (by omega)]; rfl)
    have hz : ((l.length : Int) == 0) = true := by simp [h0]
    clear h0 hn HN
    go_enter Tryz.func73, Tryz.ntmps73
    go_wp2_with fail
    go_ret
    exact ⟨by rw [HE.out]; rfl, Below.refl _ _⟩
  obtain ⟨m, hm⟩ : ∃ m, l.length = m + 1 := ⟨l.length - 1, by omega⟩
  obtain ⟨ad, x0, rfl, -, -, hx0, hc⟩ := HR.out.at_ (k := m) (by omega)
  rw [ns_get l m (by omega)] at hx0
  injection hx0 with hx0
  subst hx0
  have hdm : val (l.drop m) = l[m]'(by omega) := by rw [val_drop l m (by omega), List.drop_of_length_le (by omega)]; simp [val]
  have hxl := digs_get HD.out m (by omega)
  obtain ⟨x, hx⟩ : ∃ x, x = l[m]'(by omega) := ⟨_, rfl⟩
  rw [← hx] at hc hdm hxl
  unfold BB at hxl
  have HMB : Hid (m < 100000) := Lib.hid (by omega)
  have HM := Lib.hid hm
  have HDM := Lib.hid hdm
  have e0 := wrap_n64 x (by omega)
  have HB0 := Lib.hid ((Below.refl w.heap.size w).alloc (Nat.le_refl _) (.cells #[.pointer none, .slice none 0 0] 143))
  have HBU := Lib.hid (builder_new w)
  have HTB := Lib.hid htb
  have HX9 : Hid (Lib.nDigits x ≤ 9) := Lib.hid (nDigits_le 9 x (by omega) (by omega))
  have HSZ : Hid ((⟨(Lib.decDigits x).toArray⟩ : ByteArray).size ≤ 140737488355328) := Lib.hid (by
    have h9 : Lib.nDigits x ≤ 9 := nDigits_le 9 x (by omega) (by omega)
    have := decB_size x
    unfold decB at this
    omega)
  have HF := Lib.hid (fmtU_any _ x (by omega) (htb.below HB0.out))
  have hb0 := HB0.out
  have hlt : ad.block < w.heap.size := by
    rcases Nat.lt_or_ge ad.block w.heap.size with h | h
    · exact h
    · have e : (ad.add m).block = ad.block := block_of_add _ _
      simp [World.cell?, e, Array.getElem?_eq_none h] at hc
  have hc1 : (w.alloc (.cells #[.pointer none, .slice none 0 0] 143)).cell? (ad.add m) = some (.int .u32 (x : Int)) := (hb0.cell (p := ad.add m) (by rw [block_of_add]; exact hlt)).trans hc
  rw [hm] at l1 HR ⊢
  have i1 : wrap64 ((m : Int) + 1 - 1) = m := by rw [show (m : Int) + 1 - 1 = m from by omega]; exact IntWalk.wrap64_in _ ⟨by omega, by omega⟩
  have i2 : wrap64 ((m : Int) + 1 - 2) = (m : Int) - 1 := by rw [show (m : Int) + 1 - 2 = (m : Int) - 1 from by omega]; exact IntWalk.wrap64_in _ ⟨by omega, by omega⟩
  have i3 : wrap64 (m : Int) = m := IntWalk.wrap64_in _ ⟨by omega, by omega⟩
  have i4 : ((m : Int) + 1 == 0) = false := succ_ne_zero' m
  have hmb : m < c := l1
  clear hx hdm hxl hm htb hb0 h0 HN hl
  go_enter Tryz.func73, Tryz.ntmps73
  go_wp2_with fail
  refine HF.out.mono ?_
  rintro e w1 ⟨rfl, hb1⟩
  have HB1 := Lib.hid (HB0.out.trans (hb1.mono HB0.out.size))
  have HBU1 : Hid (Lib.BuilderAt 143 5 w.heap.size w.heap.size (.pointer none) [] w1) := Lib.hid (by
    obtain ⟨z1, v, z2, z3, z4⟩ := HBU.out
    have hv : v = .slice none 0 0 := by
      have := (Blk.new w 143 #[.pointer none, .slice none 0 0])
      unfold Blk at this
      rw [this] at z2
      injection z2 with z2
      injection z2 with z2
      have := congrArg (fun a : Array Value => a[1]?) z2
      simpa using this.symm
    subst hv
    exact ⟨z1, _, (hb1.block w.heap.size (by simp)).trans z2, World.ownsRow_nil _ _ _ _, z4⟩)
  clear hb1
  go_wp2_with fail
  refine (writeString_fresh w.heap.size w.heap.size _ _ HBU1.out (HSZ.out) HB1.out.size).mono ?_
  rintro e w2 ⟨rfl, hbu2, hb2⟩
  have HB2 := Lib.hid (HB1.out.trans hb2)
  have HBU2 := Lib.hid hbu2
  clear hbu2 hb2
  go_wp2_with fail
  go_loopw [4] (fun iv wr => ∃ (k : Nat) (L : List UInt8), iv = .int .i64 ((k : Int) - 1) ∧ k ≤ m ∧ Hid (L = Lib.decDigits (val (l.drop k))) ∧ Hid (Lib.BuilderAt 143 5 w.heap.size w.heap.size (.pointer (some ⟨w.heap.size, 0, none⟩)) (Lib.byteCells L) wr) ∧ Hid (Below w.heap.size w wr) ∧ Hid (L.length + 9 * k ≤ 9 * m + 9)) (fun iv _ => (intOf iv + 1).toNat)
  case atStart => exact ⟨m, Lib.decDigits x, by go_num, Nat.le_refl _, (by show _ = _; rw [HDM.out]), HBU2, HB2, (by show _ ≤ _; rw [Lib.decDigits_length]; have h9 := HX9.out; omega)⟩
  obtain ⟨k, L, rfl, hk, HLL, HBL, HB3, HLS⟩ := hrel
  by_cases hk0 : k = 0
  · subst hk0
    have HST := Lib.hid (Tryz.Builder_String_any w.heap.size w.heap.size L _ (Or.inr HBL.out) HB3.out.size)
    clear i1 i2 i3 i4
    go_wp2_with fail
    refine HST.out.mono ?_
    rintro e w3 ⟨rfl, hb3⟩
    have HB4 := Lib.hid (HB3.out.trans hb3)
    clear hb3
    go_wp2_with fail
    go_ret
    refine ⟨?_, HB4.out⟩
    have e := HLL.out
    rw [List.drop_zero, HV.out] at e
    rw [e]
    rfl
  · obtain ⟨q, rfl⟩ : ∃ q, k = q + 1 := ⟨k - 1, by omega⟩
    have j1 : ((q + 1 : Nat) : Int) - 1 = q := by omega
    rw [j1]
    have hql : q < l.length := by have := HM.out; omega
    have hlb2 : HR.out = HR.out := rfl
    have hrr := (HR.out.keep (w' := wr) HB3.out.size fun p _ ht => HB3.out.cell ht)
    obtain ⟨ad', y0, e, -, -, hy0, hcy⟩ := hrr.at_ (k := q) (by omega)
    injection e with e
    subst e
    rw [ns_get l q hql] at hy0
    injection hy0 with hy0
    subst hy0
    have hyl := digs_get HD.out q hql
    have hvd := val_drop l q hql
    have hvp : 0 < val (l.drop (q + 1)) := val_drop_pos l (q + 1) HNR.out (by have := HM.out; omega)
    obtain ⟨y, hy⟩ : ∃ y, y = l[q] := ⟨_, rfl⟩
    rw [← hy] at hcy hyl hvd
    have HLD : Hid (Lib.decDigits (val (l.drop q)) = L ++ padD 9 y) := Lib.hid (by rw [hvd, dec_digit _ y hvp hyl, HLL.out])
    have HPT := Lib.hid (pad_text y hyl)
    have HND : Hid (Lib.nDigits y ≤ 9) := Lib.hid (nDigits_le 9 y (by rw [← BB_pow]; exact hyl) (by omega))
    unfold BB at hyl
    have f0 := wrap_n64 y (by omega)
    have HFY := Lib.hid (fmtU_any wr y (by omega) (HTB.out.below HB3.out))
    have hqm : (q : Int) < m + 1 := by omega
    have hqw : wrap64 ((q : Int) - 1) = (q : Int) - 1 := IntWalk.wrap64_in _ ⟨by omega, by have := HMB.out; omega⟩
    obtain ⟨nd, hnd⟩ : ∃ nd, nd = Lib.nDigits y := ⟨_, rfl⟩
    obtain ⟨rp, hrp⟩ : ∃ rp : Nat, rp = 9 - nd := ⟨_, rfl⟩
    have hnd9 := HND.out
    have g1 : wrap64 (9 - (nd : Int)) = (rp : Int) := by rw [show 9 - (nd : Int) = (rp : Int) from by omega]; exact IntWalk.wrap64_in _ ⟨by omega, by omega⟩
    obtain ⟨sy, hsy⟩ : ∃ sy : ByteArray, sy = ⟨(Lib.decDigits y).toArray⟩ := ⟨_, rfl⟩
    have hsz : sy.size = nd := by rw [hsy, hnd]; exact decB_size y
    have HPT1 : Hid ((⟨(Lib.repeatL (#[48] : Array UInt8).toList (9 - Lib.nDigits y)).toArray⟩ : ByteArray) ++ sy = ⟨(padD 9 y).toArray⟩) := by rw [hsy]; exact HPT
    rw [← hsy] at HFY
    have HRP : Hid (∀ W, Calls Tryz.prog 101 #[.string ⟨#[48]⟩, .int .i64 (rp : Int)] W fun e w' => e = .returned (.string ⟨(Lib.repeatL (#[48] : Array UInt8).toList rp).toArray⟩) ∧ Below W.heap.size W w') := Lib.hid fun W => Tryz.strings_Repeat ⟨#[48]⟩ rp W (by omega) (by show 1 * rp ≤ _; omega)
    rw [← hnd, ← hrp] at HPT1
    obtain ⟨rs, hrs⟩ : ∃ rs : ByteArray, rs = ⟨(Lib.repeatL (#[48] : Array UInt8).toList rp).toArray⟩ := ⟨_, rfl⟩
    have hrsz : rs.size = rp := by
      rw [hrs, show Lib.repeatL (#[48] : Array UInt8).toList rp = List.replicate rp 48 from repeat_zero _]
      simp [ByteArray.size]
    rw [← hrs] at HPT1 HRP
    obtain ⟨ps, hps0⟩ : ∃ ps : ByteArray, ps = ⟨(padD 9 y).toArray⟩ := ⟨_, rfl⟩
    have hpsz : ps.size = 9 := by rw [hps0]; simp [ByteArray.size, padD_length]
    have HPL : Hid (ps.data.toList = padD 9 y) := Lib.hid (by rw [hps0])
    rw [← hps0] at HPT1
    have hcat := fun W => run_string_add_sum (P := Tryz.prog) (w := W) rs sy (by rw [hsz, hrsz]; omega)
    rw [HPT1.out] at hcat
    have HPZ := Lib.hid hpsz
    clear HPT hsy hrs hps0 hrsz hpsz HPT1
    have HRP9 := Lib.hid hrp
    have HY := Lib.hid hyl
    clear hy hvd hvp hyl hrr j1 hlb2 hk0 hnd hrp hnd9 i1 i2 i4
    go_wp2_with fail
    refine HFY.out.mono ?_
    rintro e w4 ⟨rfl, hb4⟩
    have HB4 := Lib.hid hb4
    clear hb4
    go_wp2_with fail
    refine (HRP.out w4).mono ?_
    rintro e w5 ⟨rfl, hb5⟩
    have hb45 : Below wr.heap.size wr w5 := HB4.out.trans (hb5.mono HB4.out.size)
    have HBL5 := Lib.hid (builder_fresh HBL.out hb45)
    have HB5 := Lib.hid (HB3.out.trans (hb45.mono HB3.out.size))
    have HL5 : Hid ((Lib.byteCells L).length ≤ 9 * m + 9) := Lib.hid (by rw [Lib.byteCells_length]; have := HLS.out; omega)
    clear hb5 hb45
    go_wp2_with fail
    have hps := HPZ.out
    refine (writeString_used w.heap.size w.heap.size _ ps _ HBL5.out (by have := HL5.out; have := HMB.out; rw [hps]; omega) HB5.out.size).mono ?_
    rintro e w6 ⟨rfl, hbu6, hb6⟩
    rw [cells_app, HPL.out] at hbu6
    have HB6 := Lib.hid (HB5.out.trans hb6)
    have HBU6 := Lib.hid hbu6
    clear hbu6 hb6 hps hcat
    go_wp2_with fail
    rw [hqw]
    go_roundw
    case rel => exact ⟨q, L ++ padD 9 y, rfl, by omega, Lib.hid HLD.out.symm, HBU6, HB6, (by show _ ≤ _; rw [List.length_append, padD_length]; have := HLS.out; omega)⟩
    case measure => simp [intOf]
end Go.Proofs.YtempdomhbfokmaaGreatDoor

namespace Go.Proofs.YtempdomhbfokmaaGreatDoor
open Go.RowKit

/-- the text of a numerator -/
def numB (q : Rat) : ByteArray := if ngN q then ⟨#[45]⟩ ++ decB q.num.natAbs else decB q.num.natAbs
/-- a number as the program's Rat -/
def ratV (q : Rat) : Value := .agg #[.string (numB q), .string (decB q.den)]
theorem rat_size : (Tryz.prog.info? 27).map (·.size) = some 2 := by kernel_rfl
theorem keeps2' (w : World) (g : Nat) (a0 a1 : Value) : Keeps (· = g) w ((w.setCell ⟨g, 0, none⟩ a0).setCell ⟨g, 1, none⟩ a1) :=
  Keeps.setCell (p := ⟨g, 1, none⟩) (Keeps.setCell (p := ⟨g, 0, none⟩) (Keeps.refl (· = g) w) (fun _ => rfl) _) (fun _ => rfl) _
theorem blk2' (w : World) (g : Nat) (t : TypeId) (b0 b1 a0 a1 : Value) (h : Blk w g t #[b0, b1]) : Blk ((w.setCell ⟨g, 0, none⟩ a0).setCell ⟨g, 1, none⟩ a1) g t #[a0, a1] := (h.set_ 0 a0).set_ 1 a1
theorem decB_le (n k : Nat) (hk : 1 ≤ k) (h : (ofN n).length ≤ k) : (decB n).size ≤ 9 * k := by
  rw [decB_size]
  have h1 := lt_pow_ofN n
  refine nDigits_le (9 * k) n ?_ (by omega)
  refine Nat.lt_of_lt_of_le h1 ?_
  rw [BB_pow, ← Nat.pow_mul]
  exact Nat.pow_le_pow_right (by decide) (by omega)
theorem decB_small (n : Nat) (h : (ofN n).length ≤ 100000) : (decB n).size ≤ 1000000 := Nat.le_trans (decB_le n 100000 (by omega) h) (by omega)
set_option maxRecDepth 100000 in
set_option maxHeartbeats 8000000 in
theorem rat_any (w : World) (T : Nat → Prop) (u : Value) (q : Rat) (hu : FR w T u q) (hs : Sz q 100000) (htb : Tb w) :
    Calls Tryz.prog 42 #[u] w fun e w' => e = .returned (ratV q) ∧ Below w.heap.size w w' := by
  obtain ⟨A1, n1, c1, A2, n2, c2, rfl, h1, h2⟩ := hu.shape
  have H1 := Lib.hid h1
  have H2 := Lib.hid h2
  have HS1 : Hid (∀ W, Below w.heap.size w W → Calls Tryz.prog 73 #[.slice A1 n1 c1] W fun e w' => e = .returned (.string (decB q.num.natAbs)) ∧ Below W.heap.size W w') := Lib.hid fun W hW => string_any W _ _ _ (H1.out.fresh hW) hs.1 (htb.below hW)
  have HS2 : Hid (∀ W, Below w.heap.size w W → Calls Tryz.prog 73 #[.slice A2 n2 c2] W fun e w' => e = .returned (.string (decB q.den)) ∧ Below W.heap.size W w') := Lib.hid fun W hW => string_any W _ _ _ (H2.out.fresh hW) hs.2 (htb.below hW)
  have hsz := decB_small q.num.natAbs hs.1
  unfold ratV numB
  generalize decB q.num.natAbs = sn at *
  generalize decB q.den = sd at *
  generalize ngN q = na at *
  clear hu h1 h2 hs htb
  have ka := (Blk.new w 81 #[.bool na, .slice A1 n1 c1, .slice A2 n2 c2]).alloc (.cells #[.string ⟨#[]⟩, .string ⟨#[]⟩] 27)
  have kr := Blk.new (w.alloc (.cells #[.bool na, .slice A1 n1 c1, .slice A2 n2 c2] 81)) 27 #[.string ⟨#[]⟩, .string ⟨#[]⟩]
  have hb0 := ((Below.refl w.heap.size w).alloc (Nat.le_refl _) (.cells #[.bool na, .slice A1 n1 c1, .slice A2 n2 c2] 81)).alloc (by simp) (.cells #[.string ⟨#[]⟩, .string ⟨#[]⟩] 27)
  simp only [World.size_alloc] at kr
  have KA := Lib.hid ka
  have KR := Lib.hid kr
  have HB0 := Lib.hid hb0
  have hcat := fun W => run_string_add_sum (P := Tryz.prog) (w := W) ⟨#[45]⟩ sn (by show 1 + sn.size ≤ _; omega)
  generalize (⟨#[45]⟩ : ByteArray) ++ sn = sm at *
  clear ka kr hb0 hsz
  cases na with
  | true =>
    go_enter Tryz.func42, Tryz.ntmps42
    go_wp2_with fail
    refine (HS1.out _ HB0.out).mono ?_
    rintro e w1 ⟨rfl, hb1⟩
    have KA1 := Lib.hid (KA.out.below hb1 KA.out.lt)
    have KR1 := Lib.hid (KR.out.below hb1 KR.out.lt)
    have HB1 := Lib.hid (HB0.out.trans (hb1.mono HB0.out.size))
    clear hb1
    have a0 : w1.cell? ⟨w.heap.size, 0, none⟩ = some (.bool true) := KA1.out.cell 0
    have a2 : w1.cell? ⟨w.heap.size, 2, none⟩ = some (.slice A2 n2 c2) := KA1.out.cell 2
    go_wp2_with fail
    refine (HS2.out _ HB1.out).mono ?_
    rintro e w2 ⟨rfl, hb2⟩
    have KR2 := Lib.hid (KR1.out.below hb2 KR1.out.lt)
    have HB2 := Lib.hid (HB1.out.trans (hb2.mono HB1.out.size))
    clear hb2
    have e0 : w2.cell? ⟨w.heap.size + 1, 0, none⟩ = some (.string ⟨#[]⟩) := KR2.out.cell 0
    have f0 := KR2.out.frozen 0
    have e1 : w2.cell? ⟨w.heap.size + 1, 1, none⟩ = some (.string ⟨#[]⟩) := KR2.out.cell 1
    have f1 := KR2.out.frozen 1
    go_wp2_with fail
    refine bodyPost_ret (v := .agg #[.string sm, .string sd]) ?_ ?_ ?_
    · exact res_cell (p := 2) (ty := 27) (fn := Tryz.f42) rfl _ _ (w.heap.size + 1) 27 #[.string sm, .string sd] _ rfl (blk2' w2 _ 27 _ _ _ _ KR2.out) Tryz.underlying27 rfl rat_size
    · rfl
    exact ⟨rfl, ((Keeps.of_below HB2.out (fun _ => False)).trans (keeps2' w2 (w.heap.size + 1) _ _) (fun i hi h => by omega)).to_below⟩
  | false =>
    go_enter Tryz.func42, Tryz.ntmps42
    go_wp2_with fail
    refine (HS1.out _ HB0.out).mono ?_
    rintro e w1 ⟨rfl, hb1⟩
    have KA1 := Lib.hid (KA.out.below hb1 KA.out.lt)
    have KR1 := Lib.hid (KR.out.below hb1 KR.out.lt)
    have HB1 := Lib.hid (HB0.out.trans (hb1.mono HB0.out.size))
    clear hb1
    have a0 : w1.cell? ⟨w.heap.size, 0, none⟩ = some (.bool false) := KA1.out.cell 0
    have a2 : w1.cell? ⟨w.heap.size, 2, none⟩ = some (.slice A2 n2 c2) := KA1.out.cell 2
    go_wp2_with fail
    refine (HS2.out _ HB1.out).mono ?_
    rintro e w2 ⟨rfl, hb2⟩
    have KR2 := Lib.hid (KR1.out.below hb2 KR1.out.lt)
    have HB2 := Lib.hid (HB1.out.trans (hb2.mono HB1.out.size))
    clear hb2
    have e0 : w2.cell? ⟨w.heap.size + 1, 0, none⟩ = some (.string ⟨#[]⟩) := KR2.out.cell 0
    have f0 := KR2.out.frozen 0
    have e1 : w2.cell? ⟨w.heap.size + 1, 1, none⟩ = some (.string ⟨#[]⟩) := KR2.out.cell 1
    have f1 := KR2.out.frozen 1
    go_wp2_with fail
    refine bodyPost_ret (v := .agg #[.string sn, .string sd]) ?_ ?_ ?_
    · exact res_cell (p := 2) (ty := 27) (fn := Tryz.f42) rfl _ _ (w.heap.size + 1) 27 #[.string sn, .string sd] _ rfl (blk2' w2 _ 27 _ _ _ _ KR2.out) Tryz.underlying27 rfl rat_size
    · rfl
    exact ⟨rfl, ((Keeps.of_below HB2.out (fun _ => False)).trans (keeps2' w2 (w.heap.size + 1) _ _) (fun i hi h => by omega)).to_below⟩

theorem Sz_int (x : Nat) (h : x < 9223372036854775808) : Sz ((x : Int) : Rat) 3 := by
  unfold Sz
  rw [Rat.num_intCast, Rat.den_intCast, Int.natAbs_natCast]
  exact ⟨ofN_length_le x 3 (by unfold BB; omega), by rw [ofN_one]; decide⟩
theorem far3' (w : World) (g b o : Nat) (a0 a1 a2 : Value) (hne : b ≠ g) : (((w.setCell ⟨g, 0, none⟩ a0).setCell ⟨g, 1, none⟩ a1).setCell ⟨g, 2, none⟩ a2).cell? ⟨b, o, none⟩ = w.cell? ⟨b, o, none⟩ := far3 w g b o a0 a1 a2 hne
set_option maxRecDepth 100000 in
set_option maxHeartbeats 8000000 in
theorem quotient_any (w : World) (x y : Nat) (hx : x < 9223372036854775808) (hy : y < 9223372036854775808) (hy0 : 0 < y) :
    Calls Tryz.prog 50 #[.int .i64 x, .int .i64 y] w fun e w' => ∃ r, e = .returned r ∧ FR w' (fun g => w.heap.size < g) r (((x : Int) : Rat) / ((y : Int) : Rat)) ∧ Below w.heap.size w w' := by
  have hyr : ((y : Int) : Rat) ≠ 0 := by
    intro h
    have := Rat.num_eq_zero.2 h
    rw [Rat.num_intCast] at this
    omega
  have HX := Lib.hid (fun W => fint_any W x hx)
  have HY := Lib.hid (fun W => fint_any W y hy)
  have HDV := Lib.hid (fun W T T' u v hu hv => fdiv_any W T T' u v _ _ 3 hu hv (Sz_int x hx) (Sz_int y hy) (by omega) hyr)
  generalize ((x : Int) : Rat) = qx at *
  generalize ((y : Int) : Rat) = qy at *
  generalize qx / qy = q at *
  have kr := Blk.new w 81 #[.bool false, .slice none 0 0, .slice none 0 0]
  have hb0 := (Below.refl w.heap.size w).alloc (Nat.le_refl _) (.cells #[.bool false, .slice none 0 0, .slice none 0 0] 81)
  have hz0 : (w.alloc (.cells #[.bool false, .slice none 0 0, .slice none 0 0] 81)).heap.size = w.heap.size + 1 := by simp
  have KR := Lib.hid kr
  have HB0 := Lib.hid hb0
  clear kr hb0 hx hy hy0 hyr
  go_enter Tryz.func50, Tryz.ntmps50
  go_wp2_with fail
  generalize w.alloc (.cells #[.bool false, .slice none 0 0, .slice none 0 0] 81) = W at *
  have HZ0 := Lib.hid hz0
  clear hz0
  refine (HX.out _).mono ?_
  rintro e w1 ⟨r1, rfl, hr1, hb1⟩
  have KR1 := Lib.hid (KR.out.below hb1 KR.out.lt)
  have HB1 := Lib.hid (HB0.out.trans (hb1.mono HB0.out.size))
  have HR1 := Lib.hid hr1
  have HZ1 : Hid (W.heap.size ≤ w1.heap.size) := Lib.hid hb1.size
  clear hr1 hb1
  go_wp2_with fail
  refine (HY.out _).mono ?_
  rintro e w2 ⟨r2, rfl, hr2, hb2⟩
  have KR2 := Lib.hid (KR1.out.below hb2 KR1.out.lt)
  have HB2 := Lib.hid (HB1.out.trans (hb2.mono HB1.out.size))
  have HD := Lib.hid (HDV.out w2 _ _ r1 r2 (HR1.out.fresh hb2) hr2)
  have HZ2 : Hid (w1.heap.size ≤ w2.heap.size) := Lib.hid hb2.size
  clear hr2 hb2
  go_wp2_with fail
  refine HD.out.mono ?_
  rintro e w3 ⟨r3, rfl, hr3, hb3⟩
  have HR3 := Lib.hid hr3
  have hsh := hr3.shape
  obtain ⟨D1, m1, d1, D2, m2, d2, rfl, -, -⟩ := hsh
  have KR3 := Lib.hid (KR2.out.below hb3 KR2.out.lt)
  have HB3 := Lib.hid (HB2.out.trans (hb3.mono HB2.out.size))
  clear hr3 hb3
  have e0 : w3.cell? ⟨w.heap.size, 0, none⟩ = some (.bool false) := KR3.out.cell 0
  have f0 := KR3.out.frozen 0
  have e1 : w3.cell? ⟨w.heap.size, 1, none⟩ = some (.slice none 0 0) := KR3.out.cell 1
  have f1 := KR3.out.frozen 1
  have e2 : w3.cell? ⟨w.heap.size, 2, none⟩ = some (.slice none 0 0) := KR3.out.cell 2
  have f2 := KR3.out.frozen 2
  go_wp2_with fail
  refine bodyPost_ret (v := .agg #[.bool (ngN q), .slice D1 m1 d1, .slice D2 m2 d2]) ?_ ?_ ?_
  · exact res_cell (p := 4) (ty := 81) (fn := Tryz.f50) rfl _ _ w.heap.size 81 #[.bool (ngN q), .slice D1 m1 d1, .slice D2 m2 d2] _ rfl (blk3' w3 _ 81 _ _ _ _ _ _ KR3.out) Tryz.underlying81 rfl frac_size
  · rfl
  exact ⟨_, rfl, (HR3.out.keeps (keeps3' w3 w.heap.size _ _ _) (fun i hi e => by have := HZ0.out; have := HZ1.out; have := HZ2.out; omega)).more (fun g _ h => by have := HZ0.out; have := HZ1.out; have := HZ2.out; omega), ((Keeps.of_below HB3.out (fun _ => False)).trans (keeps3' w3 w.heap.size _ _ _) (fun i hi h => by omega)).to_below⟩
end Go.Proofs.YtempdomhbfokmaaGreatDoor

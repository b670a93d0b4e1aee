/- num.Make; nat.Parse. num.digits, frac.Of. num.Check of a valid number. num.two, num.Add, Mul, Sub. num.Div. -/
import Derived.Test.YtempdomhbfokmaaGreatDoorMz45
import Derived.Recover
namespace Go.Proofs.YtempdomhbfokmaaGreatDoor
open Go.RowKit

theorem res_row_tmp {P : Program} {fn : Func} {p u : Tmp} {ty : TypeId} (h : fn.results = #[.cell p ty, .tmp u]) (tmps : Array Value) (w : World) (g : Nat) (t : TypeId) (cs : Array Value) (d : TypeDesc)
    (hp : tmps.getD p undef = .pointer (some ⟨g, 0, none⟩)) (hg : Blk w g t cs)
    (hu : P.underlying ty = some d) (hd : (match d with | .struct _ | .array _ _ => true | _ => false) = true) (hi : (P.info? ty).map (·.size) = some cs.size) :
    (results fn tmps).run P w = .ok (.tuple #[.agg cs, tmps.getD u undef]) w := by
  rw [results_cell_tmp h, hp]
  simp [asAddr, Result.andThen, run_loadVar_row w g t ty cs (0, 0) d hg hu hd hi]
set_option maxRecDepth 100000 in
set_option maxHeartbeats 4000000 in
theorem make_any (w : World) (x y : Nat) (q : Rat) (hx : x < 9223372036854775808) (hy : y < 9223372036854775808) (hy1 : 0 < y) (hq : ((x : Int) : Rat) / ((y : Int) : Rat) = q) (hs : Sz q 100000) (htb : Tb w) :
    Calls Tryz.prog 25 #[.int .i64 x, .int .i64 y] w fun e w' => e = .returned (.tuple #[ratV q, .int .i64 0]) ∧ Below w.heap.size w w' := by
  have HQ := Lib.hid (fun W => quotient_any W x y hx hy hy1)
  rw [hq] at HQ
  have HY : Hid (∀ W r, Below w.heap.size w W → FR W (fun _ => True) r q → Calls Tryz.prog 42 #[r] W fun e w' => e = .returned (ratV q) ∧ Below W.heap.size W w') := Lib.hid fun W r hW hr => rat_any W _ r q hr hs (htb.below hW)
  have hy0 : ((y : Int) == 0) = false := by simp; omega
  unfold ratV at *
  generalize numB q = sx at *
  generalize decB q.den = sy at *
  clear hx hy hy1 hq hs htb
  have KR := Lib.hid (Blk.new w 27 #[.string ⟨#[]⟩, .string ⟨#[]⟩])
  have HB0 := Lib.hid ((Below.refl w.heap.size w).alloc (Nat.le_refl _) (.cells #[.string ⟨#[]⟩, .string ⟨#[]⟩] 27))
  go_enter Tryz.func25, Tryz.ntmps25
  go_wp2_with fail
  refine (HQ.out _).mono ?_
  rintro e w1 ⟨r1, rfl, hr1, hb1⟩
  have K1 := Lib.hid (KR.out.below hb1 KR.out.lt)
  have B1 := Lib.hid (HB0.out.trans (hb1.mono HB0.out.size))
  have HDD := Lib.hid (HY.out w1 r1 B1.out (hr1.more (fun _ _ _ => trivial)))
  clear hr1 hb1
  go_wp2_with fail
  refine HDD.out.mono ?_
  rintro e w5 ⟨rfl, hb5⟩
  have KR5 := Lib.hid (K1.out.below hb5 K1.out.lt)
  have HB5 := Lib.hid (B1.out.trans (hb5.mono B1.out.size))
  clear hb5
  have e0 : w5.cell? ⟨w.heap.size, 0, none⟩ = some (.string ⟨#[]⟩) := KR5.out.cell 0
  have f0 := KR5.out.frozen 0
  have e1 : w5.cell? ⟨w.heap.size, 1, none⟩ = some (.string ⟨#[]⟩) := KR5.out.cell 1
  have f1 := KR5.out.frozen 1
  go_wp2_with fail
  refine bodyPost_ret (v := .tuple #[.agg #[.string sx, .string sy], .int .i64 0]) ?_ ?_ ?_
  · exact res_row_tmp (p := 4) (u := 5) (ty := 27) (fn := Tryz.f25) rfl _ _ (w.heap.size) 27 #[.string sx, .string sy] _ rfl (blk2' w5 _ 27 _ _ _ _ KR5.out) Tryz.underlying27 rfl rat_size
  · rfl
  exact ⟨rfl, ((Keeps.of_below HB5.out (fun _ => False)).trans (keeps2' w5 _ _ _) (fun i hi h => by omega)).to_below⟩

theorem extract_list (s : ByteArray) (a b : Nat) : (s.extract a b).data.toList = (s.data.toList.take b).drop a := by
  rw [List.drop_take]
  show ((s.extract a b).data).toList = _
  rw [ByteArray.data_extract, Array.toList_extract]
theorem extract_small (s : ByteArray) (a b : Nat) (h : b - a ≤ 9) : (s.extract a b).size ≤ 100 := by
  have := congrArg List.length (extract_list s a b)
  rw [List.length_drop, List.length_take, Array.length_toList] at this
  show (s.extract a b).data.size ≤ 100
  omega
set_option maxRecDepth 100000 in
set_option maxHeartbeats 8000000 in
theorem nparse_any (w : World) (s : ByteArray) (n : Nat) (hs : s.data.toList = Lib.decDigits n) (hl : (ofN n).length ≤ 100000) :
    Calls Tryz.prog 57 #[.string s] w fun e w' => ∃ v, e = .returned v ∧ NatR w' (fun g => w.heap.size ≤ g) v n ∧ Below w.heap.size w w' := by
  obtain ⟨i0, hi0, hz0, hz1, hz2⟩ := info_parts u32_info
  have HP : Hid (∀ (c : ByteArray) (x : Nat), Lib.parseUintB 32 c.data.toList = .ok x → c.size ≤ 100 → ∀ W, Calls Tryz.prog 90 #[.string c, .int .i64 10, .int .i64 32] W fun e w' => e = .returned (.tuple #[.int .u64 x, .nilIface]) ∧ Below W.heap.size W w') := Lib.hid fun c x hx hc W => (Tryz.strconv_ParseUint_10_at32_ok c (by omega) x hx W).mono fun e w' ⟨he, hw⟩ => ⟨he, by
    rcases hw with rfl | rfl
    · exact Below.refl _ _
    · exact ⟨rfl, rfl, rfl, by rw [Lib.bytesWorld_size]; omega, fun k hk => Lib.bytesWorld_at_old W 5 _ k (by omega)⟩⟩
  have hsz : s.size = Lib.nDigits n := by
    show s.data.size = _
    rw [← Array.length_toList, hs, Lib.decDigits_length]
  have hnb : Lib.nDigits n ≤ 1000000 := by have := decB_small n hl; rwa [decB_size] at this
  have HS := Lib.hid hs
  have HSZ := Lib.hid hsz
  have HNB := Lib.hid hnb
  have hs63 : (s.size : Int) ≤ 9223372036854775807 := by omega
  clear hs hl hnb
  rw [HSZ.out] at hs63
  go_enter Tryz.func57, Tryz.ntmps57
  go_wp2_with fail
  go_loopg [3, 4] 2000000 (fun f av iv wr => ∃ (k : Nat) (ds : List Nat), Hid (ds.length = k) ∧ Hid (digs ds) ∧ Hid (k + f ≤ 2000000) ∧ Own wr (fun g => w.heap.size ≤ g) 109 1 av k (ns ds) ∧ Below w.heap.size w wr ∧ ((∃ z : Int, iv = .int .i64 z ∧ z ≤ 0 ∧ -9 ≤ z ∧ Hid (val ds = n)) ∨ (∃ m : Nat, iv = .int .i64 (Lib.nDigits m : Int) ∧ Lib.nDigits m + 1 ≤ f ∧ Lib.nDigits m ≤ Lib.nDigits n ∧ Hid (s.data.toList.take (Lib.nDigits m) = Lib.decDigits m) ∧ Hid (n = val ds + BB ^ k * m))))
  case atStart => exact ⟨0, [], Lib.hid rfl, Lib.hid digs_nil, Lib.hid (by omega), Own.nil_ _ _ _ _, Below.refl _ _, Or.inr ⟨n, rfl, by have := HNB.out; omega, Nat.le_refl _, Lib.hid (by rw [HS.out, List.take_of_length_le (by rw [Lib.decDigits_length]; exact Nat.le_refl _)]), Lib.hid (by simp [val])⟩⟩
  obtain ⟨k, ds, HK, HD, HKF, ho, hb, ⟨z, rfl, hz0', hz9, HV⟩ | ⟨m, rfl, hmf, hmn, HT, HN⟩⟩ := hrel
  · have HT := Lib.hid (trim_any wr _ _ ds ho.dig HD.out)
    rw [HV.out] at HT
    have HB := Lib.hid hb
    have hzz : ¬ (0 : Int) < z := by omega
    clear ho hb
    go_wp2_with fail
    refine HT.out.mono ?_
    rintro e w5 ⟨r, rfl, hr, rfl⟩
    have HR := Lib.hid hr
    clear hr
    go_wp2_with fail
    go_ret
    exact ⟨r, rfl, HR.out, HB.out⟩
  · have hp := Lib.nDigits_pos m
    obtain ⟨e, he⟩ : ∃ e, e = Lib.nDigits m := ⟨_, rfl⟩
    rw [← he] at hmf hmn HT hp ⊢
    have hen : e ≤ 1000000 := by have := HNB.out; omega
    have hew : wrap64 ((e : Int) - 9) = (e : Int) - 9 := IntWalk.wrap64_in _ ⟨by omega, by omega⟩
    have HSZ2 : Hid (e ≤ s.size) := Lib.hid (by rw [hsz]; exact hmn)
    have hes : (e : Int) ≤ Lib.nDigits n := by omega
    have hgt : (0 : Int) < e := by omega
    obtain ⟨lo, hlo⟩ : ∃ lo, lo = e - 9 := ⟨_, rfl⟩
    have hmax : max ((e : Int) - 9) 0 = (lo : Int) := by omega
    have hloe : (lo : Int) ≤ e := by omega
    obtain ⟨cs, hcs⟩ : ∃ cs, cs = s.extract lo e := ⟨_, rfl⟩
    have hcs2 := hcs.symm
    -- what the piece is
    have hpiece : ∃ x : Nat, Lib.parseUintB 32 cs.data.toList = .ok x ∧ x < BB ∧ ((e ≤ 9 ∧ n = val ds + BB ^ k * x) ∨ (∃ m', e = Lib.nDigits m' + 9 ∧ s.data.toList.take (Lib.nDigits m') = Lib.decDigits m' ∧ n = val ds + BB ^ k * (x + BB * m'))) := by
      have hcl : cs.data.toList = (s.data.toList.take e).drop lo := by rw [hcs]; exact extract_list s lo e
      rw [HT.out] at hcl
      by_cases hmB : m < BB
      · have h9 : e ≤ 9 := by rw [he]; exact nDigits_le 9 m (by rw [← BB_pow]; exact hmB) (by omega)
        rw [show lo = 0 from by omega, List.drop_zero] at hcl
        exact ⟨m, by rw [hcl]; exact parseB_dec m hmB, hmB, Or.inl ⟨h9, HN.out⟩⟩
      · have hd1 : 0 < m / BB := Nat.div_pos (by omega) BB_pos
        have hmm := Nat.mod_add_div m BB
        have hml := Nat.mod_lt m BB_pos
        have hdd : Lib.decDigits m = Lib.decDigits (m / BB) ++ padD 9 (m % BB) := by
          have := dec_digit (m / BB) (m % BB) hd1 hml
          rwa [hmm] at this
        have hnd : e = Lib.nDigits (m / BB) + 9 := by
          have := congrArg List.length hdd
          rw [List.length_append, Lib.decDigits_length, Lib.decDigits_length, padD_length, ← he] at this
          exact this
        have hlo2 : lo = (Lib.decDigits (m / BB)).length := by rw [Lib.decDigits_length]; omega
        have hT := HT.out
        rw [hdd] at hcl hT
        rw [hlo2, List.drop_left] at hcl
        refine ⟨m % BB, by rw [hcl]; exact parseB_padD _ hml, hml, Or.inr ⟨m / BB, hnd, ?_, by rw [hmm]; exact HN.out⟩⟩
        have h2 := congrArg (List.take (Lib.nDigits (m / BB))) hT
        rw [List.take_take, Nat.min_eq_left (by omega), ← Lib.decDigits_length, List.take_left] at h2
        rw [← Lib.decDigits_length]
        exact h2
    obtain ⟨x, hx1, hx2, hx3⟩ := hpiece
    have hcz : cs.size ≤ 100 := by rw [hcs]; exact extract_small s lo e (by clear hx1 hx2 hx3; omega)
    have HPC := Lib.hid (HP.out cs x hx1 hcz)
    clear hcz
    have HX3 := Lib.hid hx3
    have HX2 := Lib.hid hx2
    have HKK := HKF.out
    have hk2 : k < 2000000 := by omega
    have hwx : IntKind.u32.wrap (x : Int) = x := wrap_n32 x (by unfold BB at hx2; omega)
    have HMF := Lib.hid hmf
    have HLO := Lib.hid hlo
    have HCS := Lib.hid hcs
    have HO := Lib.hid ho
    have HBB := Lib.hid hb
    clear he hx1 hx2 hx3 hcs HT HN hlo HKK hmf hmn
    go_wp2_with fail
    refine (HPC.out _).mono ?_
    rintro e' w1 ⟨rfl, hb1⟩
    have HB1 := Lib.hid hb1
    have HO1 := Lib.hid (HO.out.fresh hb1)
    clear hb1
    go_wp2_with (at_builtin; go_must (refine wpList_append_any _ rfl _ _ 79 rfl 109 i0 _ 1 4 Tryz.underlying79 hi0 hz0 hz1 hz2 rfl (by omega) u3 k _ rfl (HO1.out.alloc _) _ 1 1 _ rfl (lit_readsN _ _ [.int .u32 x] 1 rfl) (by intro u hu; simp at hu; rw [hu]; rfl) (by unfold maxLen; omega) (by omega) ?_); intro v' w3 happ)
    have hbz : w.heap.size ≤ w1.heap.size := Nat.le_trans HBB.out.size HB1.out.size
    obtain ⟨o3, b3⟩ := appBelow happ (B := w.heap.size) (by simp; omega) (fun g hg => HO1.out.2 g hg)
    go_roundg (gk - 1)
    case measure => have := HMF.out; omega
    case rel =>
      refine ⟨k + 1, ds ++ [x], Lib.hid (by rw [List.length_append, HK.out]; rfl), Lib.hid (digs_app.2 ⟨HD.out, by intro z hz; rw [List.mem_singleton] at hz; rw [hz]; exact HX2.out⟩), Lib.hid (by have := HKF.out; have := HMF.out; omega), by rw [ns_app]; exact o3, ((HBB.out.trans (HB1.out.mono HBB.out.size)).alloc hbz _).trans b3, ?_⟩
      rcases HX3.out with ⟨h9, hn⟩ | ⟨m', h9, ht, hn⟩
      · refine Or.inl ⟨(e : Int) - 9, rfl, by omega, by omega, Lib.hid ?_⟩
        rw [val_snoc, HK.out]; exact hn.symm
      · refine Or.inr ⟨m', by rw [h9]; congr 1; omega, by have := HMF.out; omega, by have := HSZ2.out; omega, Lib.hid ht, Lib.hid ?_⟩
        rw [val_snoc, HK.out, hn, pow_succ_mul, Nat.mul_add]
        omega
end Go.Proofs.YtempdomhbfokmaaGreatDoor

namespace Go.Proofs.YtempdomhbfokmaaGreatDoor
open Go.RowKit

def ten : List UInt8 := [48, 49, 50, 51, 52, 53, 54, 55, 56, 57]
theorem digit_ten : ∀ d : Nat, d < 10 → UInt8.ofNat (48 + d) ∈ ten := by decide
theorem dec_mem (n : Nat) : ∀ b ∈ Lib.decDigits n, b ∈ ten := by
  induction n using Nat.strongRecOn with
  | _ n ih =>
    intro b hb
    by_cases h : n < 10
    · rw [Lib.decDigits_one h, List.mem_singleton] at hb
      rw [hb]; exact digit_ten n h
    · rw [decDigits_big h] at hb
      rcases List.mem_append.1 hb with h1 | h1
      · exact ih (n / 10) (by omega) b h1
      · rw [List.mem_singleton] at h1
        rw [h1]; exact digit_ten _ (by omega)
theorem dec_head (n : Nat) (hn : n ≠ 0) : ∃ b r, Lib.decDigits n = b :: r ∧ ¬ (b.toNat : Int) = 48 := by
  induction n using Nat.strongRecOn with
  | _ n ih =>
    by_cases h : n < 10
    · refine ⟨_, [], Lib.decDigits_one h, ?_⟩
      rw [digit_nat n h]; omega
    · obtain ⟨b, r, e, hb⟩ := ih (n / 10) (by omega) (by omega)
      exact ⟨b, r ++ [UInt8.ofNat (48 + n % 10)], by rw [decDigits_big h, e]; rfl, hb⟩
theorem dec_cons (n : Nat) : ∃ b r, Lib.decDigits n = b :: r := by
  cases h : Lib.decDigits n with
  | nil => have := Lib.decDigits_length n; rw [h] at this; have h2 := Lib.nDigits_pos n; simp at this; omega
  | cons b r => exact ⟨b, r, rfl⟩
theorem dropWhile_all {α : Type} (p : α → Bool) (l : List α) (h : ∀ x ∈ l, p x = true) : l.dropWhile p = [] := by
  induction l with
  | nil => rfl
  | cons x l ih => rw [List.dropWhile_cons, if_pos (h x (by simp))]; exact ih fun y hy => h y (by simp [hy])
theorem dec_trim (n : Nat) : Lib.trimS (decB n).data.toList [48, 49, 50, 51, 52, 53, 54, 55, 56, 57] = [] := by
  rw [decB_list]
  have h : ∀ b ∈ Lib.decDigits n, ([48, 49, 50, 51, 52, 53, 54, 55, 56, 57] : List UInt8).contains b = true := fun b hb => by
    have := dec_mem n b hb
    simpa [ten] using this
  unfold Lib.trimS Lib.trimRightS Lib.trimLeftS
  rw [dropWhile_all _ (Lib.decDigits n).reverse (fun b hb => h b (by simpa using hb))]
  rfl
theorem dec_pre (n : Nat) : Lib.hasPrefix (decB n).data.toList [45] = false := by
  rw [decB_list]
  obtain ⟨b, r, e⟩ := dec_cons n
  have hb := dec_mem n b (by rw [e]; simp)
  rw [e]
  have : ∀ b ∈ ten, (45 == b) = false := by decide
  have h2 := this b hb
  simp [Lib.hasPrefix, List.isPrefixOf, h2]
theorem cut_num (w : World) (q : Rat) : Calls Tryz.prog 54 #[.string (numB q), .string ⟨#[45]⟩] w fun e w' => e = .returned (.tuple #[.string (decB q.num.natAbs), .bool (ngN q)]) ∧ w' = w := by
  have h1 := Tryz.strings_CutPrefix (numB q) ⟨#[45]⟩ w
  have hp : Lib.hasPrefix (numB q).data.toList (#[45] : Array UInt8).toList = ngN q := by
    unfold numB
    cases h : ngN q
    · exact dec_pre _
    · simp [Lib.hasPrefix, ByteArray.data_append]
  have ht : (⟨(Lib.trimPrefix (numB q).data.toList (#[45] : Array UInt8).toList).toArray⟩ : ByteArray) = decB q.num.natAbs := by
    unfold Lib.trimPrefix
    rw [hp]
    unfold numB
    cases h : ngN q
    · rfl
    · apply ByteArray.ext
      simp [ByteArray.data_append]
  rw [hp] at h1
  rw [ht] at h1
  exact h1
set_option maxRecDepth 100000 in
set_option maxHeartbeats 4000000 in
theorem digits_any (w : World) (n : Nat) (hl : (ofN n).length ≤ 100000) :
    Calls Tryz.prog 55 #[.string (decB n)] w fun e w' => e = .returned (.bool true) ∧ Below w.heap.size w w' := by
  have hz := decB_small n hl
  have HT : Hid (∀ W, Calls Tryz.prog 86 #[.string (decB n), .string ⟨#[48, 49, 50, 51, 52, 53, 54, 55, 56, 57]⟩] W fun e w' => e = .returned (.string ⟨#[]⟩) ∧ Below W.heap.size W w') := Lib.hid fun W => by
    have := Tryz.strings_Trim (decB n) ⟨#[48, 49, 50, 51, 52, 53, 54, 55, 56, 57]⟩ W (by omega) (by decide) (fun j b hj => (by decide : ∀ b ∈ [(48 : UInt8), 49, 50, 51, 52, 53, 54, 55, 56, 57], b.toNat < 128) b (List.mem_of_getElem? hj))
    rw [dec_trim n] at this
    exact this
  obtain ⟨b, r, hbr⟩ := dec_cons n
  have hnl : ¬ (decB n).toList = [] := by rw [ByteArray.toList_eq, decB_list, hbr]; simp
  have hne : (decB n).toList.isEmpty = false := by rw [ByteArray.toList_eq, decB_list, hbr]; rfl
  have hpos : 0 < (decB n).size := by rw [decB_size]; exact Lib.nDigits_pos n
  have hb0 : ∀ h : 0 < (decB n).size, (decB n)[0]'h = b := fun h => by
    have h1 : (decB n).data.toList[0]? = some b := by rw [decB_list, hbr]; rfl
    have h2 : (decB n).data[0]? = some b := by rw [← Array.getElem?_toList]; exact h1
    have h3 := Array.getElem?_eq_getElem (show 0 < (decB n).data.size from h)
    rw [h3] at h2
    injection h2
  by_cases hn : n = 0
  · subst hn
    have e0 : decB 0 = ⟨#[48]⟩ := by unfold decB; rw [Lib.decDigits_one (by omega)]; rfl
    rw [e0] at HT ⊢
    clear hnl hne hpos hb0 hz hl hbr
    go_enter Tryz.func55, Tryz.ntmps55
    go_wp2_with fail
    refine (HT.out _).mono ?_
    rintro e w1 ⟨rfl, hb1⟩
    have HB1 := Lib.hid hb1
    clear hb1
    go_wp2_with fail
    go_ret
    exact ⟨rfl, HB1.out⟩
  · obtain ⟨b', r', e1, hb48⟩ := dec_head n hn
    rw [hbr] at e1
    injection e1 with e1
    subst e1
    have hn0 : Hid (∀ h : 0 < (decB n).size, ¬ (((decB n)[0]'h).toNat : Int) = 48) := Lib.hid fun h => by rw [hb0 h]; exact hb48
    generalize decB n = s at *
    clear hb0 hb48 hbr hn hl
    go_enter Tryz.func55, Tryz.ntmps55
    go_wp2_with fail
    refine (HT.out _).mono ?_
    rintro e w1 ⟨rfl, hb1⟩
    have HB1 := Lib.hid hb1
    clear hb1
    go_wp2_with fail
    · rename_i hq
      exact absurd hq (hn0.out _)
    · go_ret
      exact ⟨rfl, HB1.out⟩
set_option maxRecDepth 100000 in
set_option maxHeartbeats 8000000 in
theorem fof_any (w : World) (q : Rat) (hs : Sz q 100000) :
    Calls Tryz.prog 41 #[ratV q] w fun e w' => ∃ r, e = .returned r ∧ FR w' (fun g => w.heap.size + 1 < g) r q ∧ Below w.heap.size w w' := by
  have HC := Lib.hid (fun W => cut_num W q)
  have HPX := Lib.hid (fun W => nparse_any W (decB q.num.natAbs) q.num.natAbs (decB_list _) hs.1)
  have HPY := Lib.hid (fun W => nparse_any W (decB q.den) q.den (decB_list _) hs.2)
  unfold ratV
  have HRES : Hid (∀ (W : World) (x y : Value), NatR W (fun g => w.heap.size + 1 < g) x q.num.natAbs → NatR W (fun g => w.heap.size + 1 < g) y q.den → FR W (fun g => w.heap.size + 1 < g) (.agg #[.bool (ngN q), x, y]) q) := Lib.hid fun W x y hx hy => ⟨x, y, rfl, hx, hy⟩
  generalize numB q = sm at *
  generalize decB q.num.natAbs = sx at *
  generalize decB q.den = sy at *
  generalize ngN q = na at *
  clear hs
  have ka := (Blk.new w 27 #[.string sm, .string sy]).alloc (.cells #[.bool false, .slice none 0 0, .slice none 0 0] 81)
  have kr := Blk.new (w.alloc (.cells #[.string sm, .string sy] 27)) 81 #[.bool false, .slice none 0 0, .slice none 0 0]
  have hb0 := ((Below.refl w.heap.size w).alloc (Nat.le_refl _) (.cells #[.string sm, .string sy] 27)).alloc (by simp) (.cells #[.bool false, .slice none 0 0, .slice none 0 0] 81)
  have hz0 : ((w.alloc (.cells #[.string sm, .string sy] 27)).alloc (.cells #[.bool false, .slice none 0 0, .slice none 0 0] 81)).heap.size = w.heap.size + 2 := by simp
  simp only [World.size_alloc] at kr
  have KA := Lib.hid ka
  have KR := Lib.hid kr
  have HB0 := Lib.hid hb0
  clear ka kr hb0
  go_enter Tryz.func41, Tryz.ntmps41
  go_wp2_with fail
  refine (HC.out _).mono ?_
  rintro e w1 ⟨rfl, hw1⟩
  generalize (w.alloc (.cells #[.string sm, .string sy] 27)).alloc (.cells #[.bool false, .slice none 0 0, .slice none 0 0] 81) = W at *
  subst hw1
  have HZ0 := Lib.hid hz0
  clear hz0
  have e1 : w1.cell? ⟨w.heap.size, 1, none⟩ = some (.string sy) := KA.out.cell 1
  have zr := KA.out.lt
  have zs := KR.out.lt
  have zr0 : w.heap.size ≠ w.heap.size + 1 := by omega
  go_wp2_with fail
  go_region_held3 (fun w' => w'.cell? ⟨w.heap.size, 1, none⟩ = some (.string sy)) (first | (go_keep; done) | exact s4 | exact s3 | exact (far3 _ _ _ _ _ _ _ zr0).trans s4) ((first
    | (go_at_call 57; with_reducible show Calls _ _ #[Value.string sx] _ _; refine (HPX.out _).mono ?_; rintro e w3 ⟨n, rfl, hn, hb3⟩; have hln := hn.len; obtain ⟨B1, k1, rfl⟩ := hln; replace hb3 := below_start hb3; have s3 : w3.cell? ⟨w.heap.size, 1, none⟩ = some (.string sy) := ((bcell hb3).1 _ _ zr).trans e1; have z3 : w.heap.size < w3.heap.size := Nat.lt_of_lt_of_le zr hb3.size)
    | (go_at_call 57; with_reducible show Calls _ _ #[Value.string sy] _ _; refine (HPY.out _).mono ?_; rintro e w4 ⟨d, rfl, hd, hb4⟩; have hld := hd.len; obtain ⟨B2, k2, rfl⟩ := hld
       have s4 : w4.cell? ⟨w.heap.size, 1, none⟩ = some (.string sy) := ((bcell hb4).1 _ _ z3).trans s3
       have KR4 := (KR.out.below hb3 KR.out.lt).below hb4 (KR.out.below hb3 KR.out.lt).lt
       have e0 := KR4.cell 0
       have e1 := KR4.cell 1
       have e2 := KR4.cell 2
       have f0 := KR4.frozen 0
       have f1 := KR4.frozen 1
       have f2 := KR4.frozen 2
       simp only [List.getElem?_toArray, List.getElem?_cons_zero, List.getElem?_cons_succ] at e0 e1 e2)))
  have KR3 := Lib.hid KR4
  have hz34 : w1.heap.size ≤ w3.heap.size := hb3.size
  have hn4 := (hn.fresh hb4).more (T' := fun g => w.heap.size + 1 < g) (fun g _ h => by have := HZ0.out; have h2 : w1.heap.size ≤ g := h; omega)
  have hd4 := hd.more (T' := fun g => w.heap.size + 1 < g) (fun g _ h => by have := HZ0.out; omega)
  have HN4 := Lib.hid hn4
  have HD4 := Lib.hid hd4
  have HBE := Lib.hid (HB0.out.trans ((hb3.trans (hb4.mono hb3.size)).mono HB0.out.size))
  obtain ⟨l1, hl1⟩ : ∃ l, l = (ofN q.num.natAbs).length := ⟨_, rfl⟩
  obtain ⟨l2, hl2⟩ : ∃ l, l = (ofN q.den).length := ⟨_, rfl⟩
  rw [← hl1] at HN4 ⊢
  rw [← hl2] at HD4 ⊢
  clear hb3 hb4 hn hd s3 s4 z3 e0 e1 e2 f0 f1 f2 KR4 hn4 hd4 hl1 hl2 hz34
  go_wp2_with fail
  refine bodyPost_ret (v := .agg #[.bool na, .slice B1 l1 k1, .slice B2 l2 k2]) ?_ ?_ ?_
  · exact res_cell (p := 2) (ty := 81) (fn := Tryz.f41) rfl _ _ (w.heap.size + 1) 81 #[.bool na, .slice B1 l1 k1, .slice B2 l2 k2] _ rfl (blk3' w4 _ 81 _ _ _ _ _ _ KR3.out) Tryz.underlying81 rfl frac_size
  · rfl
  exact ⟨_, rfl, HRES.out _ _ _ ((show NatR w4 _ _ _ from HN4.out).keeps (keeps3' w4 (w.heap.size + 1) _ _ _) (fun i hi e => by omega)) ((show NatR w4 _ _ _ from HD4.out).keeps (keeps3' w4 (w.heap.size + 1) _ _ _) (fun i hi e => by omega)), ((Keeps.of_below HBE.out (fun _ => False)).trans (keeps3' w4 (w.heap.size + 1) _ _ _) (fun i hi h => by omega)).to_below⟩
end Go.Proofs.YtempdomhbfokmaaGreatDoor

namespace Go.Proofs.YtempdomhbfokmaaGreatDoor
open Go.RowKit

theorem dec_not0 (n : Nat) (h : n ≠ 0) : ¬ Lib.decDigits n = [48] := by
  obtain ⟨b, r, e, hb⟩ := dec_head n h
  rw [e]
  intro h2
  injection h2 with h3
  subst h3
  exact hb rfl
theorem dec_not1 (n : Nat) (h : n ≠ 1) : ¬ Lib.decDigits n = [49] := by
  intro h2
  by_cases h3 : n < 10
  · rw [Lib.decDigits_one h3] at h2
    injection h2 with h4
    have := congrArg UInt8.toNat h4
    rw [digit_nat n h3] at this
    have h5 : (49 : UInt8).toNat = 49 := rfl
    omega
  · have := congrArg List.length h2
    rw [Lib.decDigits_length, Lib.nDigits_big h3] at this
    have h4 := Lib.nDigits_pos (n / 10)
    simp at this
    omega
theorem decB_toList (n : Nat) : (decB n).toList = Lib.decDigits n := by rw [ByteArray.toList_eq, decB_list]
theorem decB_0 : decB 0 = ⟨#[48]⟩ := by unfold decB; rw [Lib.decDigits_one (by omega)]; rfl
theorem decB_1 : decB 1 = ⟨#[49]⟩ := by unfold decB; rw [Lib.decDigits_one (by omega)]; rfl
set_option maxRecDepth 100000 in
set_option maxHeartbeats 8000000 in
theorem ncheck_any (w : World) (q : Rat) (hs : Sz q 100000) :
    Calls Tryz.prog 27 #[ratV q] w fun e w' => e = .returned (.int .i64 0) ∧ Below w.heap.size w w' := by
  have HC := Lib.hid (fun W => cut_num W q)
  have HDX := Lib.hid (fun W => digits_any W q.num.natAbs hs.1)
  have HDY := Lib.hid (fun W => digits_any W q.den hs.2)
  have HPX := Lib.hid (fun W => nparse_any W (decB q.num.natAbs) q.num.natAbs (decB_list _) hs.1)
  have HPY := Lib.hid (fun W => nparse_any W (decB q.den) q.den (decB_list _) hs.2)
  have HGC := Lib.hid (fun W T T' u v hu hv => gcd_any W T T' u v q.num.natAbs q.den hu hv hs.1 hs.2)
  have hgcd : Nat.gcd q.num.natAbs q.den = 1 := q.reduced
  rw [hgcd] at HGC
  have hden : q.den ≠ 0 := q.den_nz
  unfold ratV
  by_cases hq0 : q.num.natAbs = 0
  · have hd1 : q.den = 1 := by rw [hq0, Nat.gcd_zero_left] at hgcd; exact hgcd
    have hng : ngN q = false := by have h : q.num = 0 := Int.natAbs_eq_zero.1 hq0; unfold ngN; rw [h]; rfl
    have hnb : numB q = ⟨#[48]⟩ := by unfold numB; rw [hng, hq0, decB_0]; rfl
    rw [hng, hnb, hq0, decB_0] at HC
    rw [hq0, decB_0] at HDX
    rw [hd1, decB_1] at HDY
    rw [hnb, hd1, decB_1]
    clear HPX HPY HGC hgcd hden hq0 hd1 hng hnb hs
    have KR := Lib.hid (Blk.new w 27 #[.string ⟨#[48]⟩, .string ⟨#[49]⟩])
    have HB0 := Lib.hid ((Below.refl w.heap.size w).alloc (Nat.le_refl _) (.cells #[.string ⟨#[48]⟩, .string ⟨#[49]⟩] 27))
    go_enter Tryz.func27, Tryz.ntmps27
    go_wp2_with fail
    refine (HC.out _).mono ?_
    rintro e w1 ⟨rfl, rfl⟩
    go_wp2_with fail
    refine (HDX.out _).mono ?_
    rintro e w1 ⟨rfl, hb1⟩
    have K1 := Lib.hid (KR.out.below hb1 KR.out.lt)
    have B1 := Lib.hid (HB0.out.trans (hb1.mono HB0.out.size))
    clear hb1
    have e1 : w1.cell? ⟨w.heap.size, 1, none⟩ = some (.string ⟨#[49]⟩) := K1.out.cell 1
    go_wp2_with fail
    refine (HDY.out _).mono ?_
    rintro e w2 ⟨rfl, hb2⟩
    have K2 := Lib.hid (K1.out.below hb2 K1.out.lt)
    have B2 := Lib.hid (B1.out.trans (hb2.mono B1.out.size))
    clear hb2 e1
    have e1 : w2.cell? ⟨w.heap.size, 1, none⟩ = some (.string ⟨#[49]⟩) := K2.out.cell 1
    go_wp2_with fail
    go_ret
    exact ⟨rfl, B2.out⟩
  have hx0 : ((decB q.num.natAbs).toList == [48]) = false := by rw [decB_toList]; simpa using dec_not0 _ hq0
  have hx0' : ¬ (decB q.num.natAbs).toList = [48] := by rw [decB_toList]; exact dec_not0 _ hq0
  have hy0 : ((decB q.den).toList == [48]) = false := by rw [decB_toList]; simpa using dec_not0 _ hden
  have hy0' : ¬ (decB q.den).toList = [48] := by rw [decB_toList]; exact dec_not0 _ hden
  by_cases hd1 : q.den = 1
  · rw [hd1, decB_1] at HDY hy0 hy0' ⊢
    generalize numB q = sm at *
    generalize decB q.num.natAbs = sx at *
    generalize ngN q = na at *
    clear HPX HPY HGC hgcd hden hq0 hd1 hs
    have KR := Lib.hid (Blk.new w 27 #[.string sm, .string ⟨#[49]⟩])
    have HB0 := Lib.hid ((Below.refl w.heap.size w).alloc (Nat.le_refl _) (.cells #[.string sm, .string ⟨#[49]⟩] 27))
    go_enter Tryz.func27, Tryz.ntmps27
    go_wp2_with fail
    refine (HC.out _).mono ?_
    rintro e w1 ⟨rfl, rfl⟩
    go_wp2_with fail
    refine (HDX.out _).mono ?_
    rintro e w1 ⟨rfl, hb1⟩
    have K1 := Lib.hid (KR.out.below hb1 KR.out.lt)
    have B1 := Lib.hid (HB0.out.trans (hb1.mono HB0.out.size))
    clear hb1
    have e1 : w1.cell? ⟨w.heap.size, 1, none⟩ = some (.string ⟨#[49]⟩) := K1.out.cell 1
    go_wp2_with fail
    refine (HDY.out _).mono ?_
    rintro e w2 ⟨rfl, hb2⟩
    have K2 := Lib.hid (K1.out.below hb2 K1.out.lt)
    have B2 := Lib.hid (B1.out.trans (hb2.mono B1.out.size))
    clear hb2 e1
    have e1 : w2.cell? ⟨w.heap.size, 1, none⟩ = some (.string ⟨#[49]⟩) := K2.out.cell 1
    go_wp2_with fail
    go_quiet (fail)
    go_wp2_with fail
    go_ret
    exact ⟨rfl, ((Keeps.of_below B2.out (fun _ => False)).drewN _).to_below⟩
  have hy1 : ((decB q.den).toList == [49]) = false := by rw [decB_toList]; simpa using dec_not1 _ hd1
  have hy1' : ¬ (decB q.den).toList = [49] := by rw [decB_toList]; exact dec_not1 _ hd1
  generalize numB q = sm at *
  generalize decB q.num.natAbs = sx at *
  generalize decB q.den = sy at *
  generalize ngN q = na at *
  clear hgcd hden hq0 hd1 hs
  have KR := Lib.hid (Blk.new w 27 #[.string sm, .string sy])
  have HB0 := Lib.hid ((Below.refl w.heap.size w).alloc (Nat.le_refl _) (.cells #[.string sm, .string sy] 27))
  go_enter Tryz.func27, Tryz.ntmps27
  go_wp2_with fail
  refine (HC.out _).mono ?_
  rintro e w1 ⟨rfl, rfl⟩
  go_wp2_with fail
  refine (HDX.out _).mono ?_
  rintro e w1 ⟨rfl, hb1⟩
  have K1 := Lib.hid (KR.out.below hb1 KR.out.lt)
  have B1 := Lib.hid (HB0.out.trans (hb1.mono HB0.out.size))
  clear hb1
  have e1 : w1.cell? ⟨w.heap.size, 1, none⟩ = some (.string sy) := K1.out.cell 1
  go_wp2_with fail
  refine (HDY.out _).mono ?_
  rintro e w2 ⟨rfl, hb2⟩
  have K2 := Lib.hid (K1.out.below hb2 K1.out.lt)
  have B2 := Lib.hid (B1.out.trans (hb2.mono B1.out.size))
  clear hb2 e1
  have e1 : w2.cell? ⟨w.heap.size, 1, none⟩ = some (.string sy) := K2.out.cell 1
  go_wp2_with fail
  have zr := K2.out.lt
  have H11 : Hid (∀ W T u, NatR W T u 1 → Calls Tryz.prog 43 #[u] W fun e w' => e = .returned (.bool true) ∧ w' = W) := Lib.hid fun W T u hu => one_any W T u 1 hu
  clear hx0 hx0' hy0 hy0'
  go_region_held3 (fun w' => w'.cell? ⟨w.heap.size, 1, none⟩ = some (.string sy)) (first | (go_keep; done) | exact ((bcell hb5).1 _ _ z4).trans s4 | exact s4 | exact s3) ((first
    | (go_at_call 57; with_reducible show Calls _ _ #[Value.string sx] _ _; refine (HPX.out _).mono ?_; rintro e w3 ⟨n, rfl, hn, hb3⟩; replace hb3 := below_start hb3; have s3 : w3.cell? ⟨w.heap.size, 1, none⟩ = some (.string sy) := ((bcell hb3).1 _ _ zr).trans e1; have z3 : w.heap.size < w3.heap.size := Nat.lt_of_lt_of_le zr hb3.size)
    | (go_at_call 57; with_reducible show Calls _ _ #[Value.string sy] _ _; refine (HPY.out _).mono ?_; rintro e w4 ⟨d, rfl, hd, hb4⟩; have s4 : w4.cell? ⟨w.heap.size, 1, none⟩ = some (.string sy) := ((bcell hb4).1 _ _ z3).trans s3; have z4 : w.heap.size < w4.heap.size := Nat.lt_of_lt_of_le z3 hb4.size)
    | (go_at_call 56; refine (HGC.out _ _ _ _ _ (hn.fresh hb4) hd).mono ?_; rintro e w5 ⟨r, rfl, hr, hb5⟩)
    | (go_at_call 43; refine (H11.out _ _ _ hr).mono ?_; rintro e w6 ⟨rfl, rfl⟩)))
  have HBE := Lib.hid (B2.out.trans ((hb3.trans (hb4.mono hb3.size |>.trans (hb5.mono (Nat.le_trans hb3.size hb4.size)))).mono B2.out.size))
  clear hb3 hb4 hb5 hn hd hr s3 s4 z3 z4 e1
  go_wp2_with fail
  go_ret
  exact ⟨rfl, HBE.out⟩
end Go.Proofs.YtempdomhbfokmaaGreatDoor

namespace Go.Proofs.YtempdomhbfokmaaGreatDoor
open Go.RowKit

theorem far2 (w : World) (g b o : Nat) (a0 a1 : Value) (hne : b ≠ g) : ((w.setCell ⟨g, 0, none⟩ a0).setCell ⟨g, 1, none⟩ a1).cell? ⟨b, o, none⟩ = w.cell? ⟨b, o, none⟩ := by
  unfold World.cell?
  rw [Below.heap_setCell _ ⟨g, 1, none⟩ _ b hne, Below.heap_setCell _ ⟨g, 0, none⟩ _ b hne]
theorem Sz_mk (neg : Bool) (n d k : Nat) (hd : 0 < d) (hn : (ofN n).length ≤ k) (hdl : (ofN d).length ≤ k) : Sz (mkRat (sgn neg n) d) k := by
  obtain ⟨h1, h2⟩ := mk_le neg n d hd
  exact ⟨Nat.le_trans (ofN_length_mono _ _ h1) hn, Nat.le_trans (ofN_length_mono _ _ h2) hdl⟩
theorem Sz.add {a b : Rat} {k : Nat} (ha : Sz a k) (hb : Sz b k) : Sz (a + b) (2 * k + 1) := by
  have hd := Nat.mul_pos a.den_pos b.den_pos
  have h1 : (ofN (a.num.natAbs * b.den)).length ≤ 2 * k := Nat.le_trans (Sz.mul ha.1 hb.2) (by omega)
  have h2 : (ofN (b.num.natAbs * a.den)).length ≤ 2 * k := Nat.le_trans (Sz.mul hb.1 ha.2) (by omega)
  have h3 : (ofN (a.den * b.den)).length ≤ 2 * k + 1 := Nat.le_trans (Sz.mul ha.2 hb.2) (by omega)
  by_cases h : ngN a = ngN b
  · rw [rat_add_same a b h]
    exact Sz_mk _ _ _ _ hd (ofN_add_len _ _ _ h1 h2) h3
  · rw [rat_add_diff a b h]
    split
    · exact Sz_mk _ _ _ _ hd (Nat.le_trans (ofN_length_mono _ _ (Nat.sub_le _ _)) (by omega)) h3
    · exact Sz_mk _ _ _ _ hd (Nat.le_trans (ofN_length_mono _ _ (Nat.sub_le _ _)) (by omega)) h3
theorem Sz.neg {a : Rat} {k : Nat} (ha : Sz a k) : Sz (-a) k := ⟨by rw [(rat_neg a).1]; exact ha.1, by rw [(rat_neg a).2.1]; exact ha.2⟩
theorem Sz.sub {a b : Rat} {k : Nat} (ha : Sz a k) (hb : Sz b k) : Sz (a - b) (2 * k + 1) := by rw [Rat.sub_eq_add_neg]; exact ha.add hb.neg
theorem Sz.mulR {a b : Rat} {k : Nat} (ha : Sz a k) (hb : Sz b k) : Sz (a * b) (2 * k) := by
  rw [rat_mul]
  exact Sz_mk _ _ _ _ (Nat.mul_pos a.den_pos b.den_pos) (Nat.le_trans (Sz.mul ha.1 hb.1) (by omega)) (Nat.le_trans (Sz.mul ha.2 hb.2) (by omega))
theorem Sz.divR {a b : Rat} {k : Nat} (ha : Sz a k) (hb : Sz b k) (h0 : b ≠ 0) : Sz (a / b) (2 * k) := by
  rw [rat_div a b h0]
  have hn : b.num ≠ 0 := fun h => h0 (Rat.num_eq_zero.1 h)
  exact Sz_mk _ _ _ _ (Nat.mul_pos a.den_pos (by omega)) (Nat.le_trans (Sz.mul ha.1 hb.2) (by omega)) (Nat.le_trans (Sz.mul ha.2 hb.1) (by omega))
theorem Sz.le {a : Rat} {k l : Nat} (h : Sz a k) (hk : k ≤ l) : Sz a l := ⟨Nat.le_trans h.1 hk, Nat.le_trans h.2 hk⟩

set_option maxRecDepth 100000 in
set_option maxHeartbeats 8000000 in
theorem two_add (w : World) (a b : Rat) (k : Nat) (ha : Sz a k) (hb : Sz b k) (hk : k ≤ 40000) (htb : Tb w) :
    Calls Tryz.prog 21 #[ratV a, ratV b, .func (.func 22) #[] #[]] w fun e w' => e = .returned (.tuple #[ratV (a + b), .int .i64 0]) ∧ Below w.heap.size w w' := by
  have HCA := Lib.hid (fun W => ncheck_any W a (ha.le (by omega)))
  have HCB := Lib.hid (fun W => ncheck_any W b (hb.le (by omega)))
  have HOA := Lib.hid (fun W => fof_any W a (ha.le (by omega)))
  have HOB := Lib.hid (fun W => fof_any W b (hb.le (by omega)))
  have HDO : Hid (∀ (W : World) (T T' : Nat → Prop) (x y : Value), FR W T x a → FR W T' y b → Calls Tryz.prog 22 #[x, y] W fun e w' => ∃ r, e = .returned r ∧ FR w' (fun _ => True) r (a + b) ∧ Below W.heap.size W w') := Lib.hid fun W T T' x y hx hy => (fadd_any W T T' x y a b k hx hy ha hb hk).mono fun e w' ⟨r, h1, h2, h3⟩ => ⟨r, h1, h2.more (fun _ _ _ => trivial), h3⟩
  have HRA : Hid (∀ (W : World) (x : Value), Below w.heap.size w W → FR W (fun _ => True) x (a + b) → Calls Tryz.prog 42 #[x] W fun e w' => e = .returned (ratV (a + b)) ∧ Below W.heap.size W w') := Lib.hid fun W x hW hx => rat_any W _ x _ hx ((ha.add hb).le (by omega)) (htb.below hW)
  unfold ratV at *
  generalize a + b = q at *
  generalize numB a = sa at *
  generalize decB a.den = ta at *
  generalize numB b = sb at *
  generalize decB b.den = tb at *
  generalize numB q = sq at *
  generalize decB q.den = tq at *
  clear ha hb hk htb
  have ka := ((Blk.new w 27 #[.string sa, .string ta]).alloc (.cells #[.string sb, .string tb] 27)).alloc (.cells #[.string ⟨#[]⟩, .string ⟨#[]⟩] 27)
  have kb := (Blk.new (w.alloc (.cells #[.string sa, .string ta] 27)) 27 #[.string sb, .string tb]).alloc (.cells #[.string ⟨#[]⟩, .string ⟨#[]⟩] 27)
  have kr := Blk.new ((w.alloc (.cells #[.string sa, .string ta] 27)).alloc (.cells #[.string sb, .string tb] 27)) 27 #[.string ⟨#[]⟩, .string ⟨#[]⟩]
  have hb0 := (((Below.refl w.heap.size w).alloc (Nat.le_refl _) (.cells #[.string sa, .string ta] 27)).alloc (by simp) (.cells #[.string sb, .string tb] 27)).alloc (by simp; omega) (.cells #[.string ⟨#[]⟩, .string ⟨#[]⟩] 27)
  simp only [World.size_alloc] at kb kr
  have KA := Lib.hid ka
  have KB := Lib.hid kb
  have KR := Lib.hid kr
  have HB0 := Lib.hid hb0
  clear ka kb kr hb0
  go_enter Tryz.func21, Tryz.ntmps21
  go_wp2_with fail
  refine (HCA.out _).mono ?_
  rintro e w1 ⟨rfl, hb1⟩
  have KA1 := Lib.hid (KA.out.below hb1 KA.out.lt)
  have KB1 := Lib.hid (KB.out.below hb1 KB.out.lt)
  have KR1 := Lib.hid (KR.out.below hb1 KR.out.lt)
  have HB1 := Lib.hid (HB0.out.trans (hb1.mono HB0.out.size))
  clear hb1 KA KB KR HB0
  have b0 : w1.cell? ⟨w.heap.size + 1, 0, none⟩ = some (.string sb) := KB1.out.cell 0
  have b1 : w1.cell? ⟨w.heap.size + 1, 1, none⟩ = some (.string tb) := KB1.out.cell 1
  go_wp2_with fail
  refine (HCB.out _).mono ?_
  rintro e w2 ⟨rfl, hb2⟩
  have KA2 := Lib.hid (KA1.out.below hb2 KA1.out.lt)
  have KB2 := Lib.hid (KB1.out.below hb2 KB1.out.lt)
  have KR2 := Lib.hid (KR1.out.below hb2 KR1.out.lt)
  have HB2 := Lib.hid (HB1.out.trans (hb2.mono HB1.out.size))
  clear hb2 KA1 KB1 KR1 HB1 b0 b1 HCA HCB
  have a0 : w2.cell? ⟨w.heap.size, 0, none⟩ = some (.string sa) := KA2.out.cell 0
  have a1 : w2.cell? ⟨w.heap.size, 1, none⟩ = some (.string ta) := KA2.out.cell 1
  have b0 : w2.cell? ⟨w.heap.size + 1, 0, none⟩ = some (.string sb) := KB2.out.cell 0
  have b1 : w2.cell? ⟨w.heap.size + 1, 1, none⟩ = some (.string tb) := KB2.out.cell 1
  have za := KA2.out.lt
  have zb := KB2.out.lt
  have zr0 : w.heap.size ≠ w.heap.size + 1 + 1 := by omega
  have zr1 : w.heap.size + 1 ≠ w.heap.size + 1 + 1 := by omega
  go_wp2_with fail
  go_region_held3 (fun w' => w'.cell? ⟨w.heap.size, 0, none⟩ = some (.string sa) ∧ w'.cell? ⟨w.heap.size, 1, none⟩ = some (.string ta) ∧ w'.cell? ⟨w.heap.size + 1, 0, none⟩ = some (.string sb) ∧ w'.cell? ⟨w.heap.size + 1, 1, none⟩ = some (.string tb)) (first | (go_keep; done) | exact ⟨(be _ _ za).trans a0, (be _ _ za).trans a1, (be _ _ zb).trans b0, (be _ _ zb).trans b1⟩ | exact ⟨(bd _ _ za).trans a0, (bd _ _ za).trans a1, (bd _ _ zb).trans b0, (bd _ _ zb).trans b1⟩ | exact ⟨(bc _ _ za).trans a0, (bc _ _ za).trans a1, (bc _ _ zb).trans b0, (bc _ _ zb).trans b1⟩ | exact ⟨(bf _ _ za).trans a0, (bf _ _ za).trans a1, (bf _ _ zb).trans b0, (bf _ _ zb).trans b1⟩ | exact ⟨(far2 _ _ _ _ _ _ zr0).trans ((bf _ _ za).trans a0), (far2 _ _ _ _ _ _ zr0).trans ((bf _ _ za).trans a1), (far2 _ _ _ _ _ _ zr1).trans ((bf _ _ zb).trans b0), (far2 _ _ _ _ _ _ zr1).trans ((bf _ _ zb).trans b1)⟩) ((first
    | (go_at_call 41; with_reducible show Calls _ _ #[Value.agg #[Value.string sa, Value.string ta]] _ _; refine (HOA.out _).mono ?_; rintro e w3 ⟨x1, rfl, hx1, hb3⟩; replace hb3 := below_start hb3; have bc := (bcell hb3).1)
    | (go_at_call 41; with_reducible show Calls _ _ #[Value.agg #[Value.string sb, Value.string tb]] _ _; refine (HOB.out _).mono ?_; rintro e w4 ⟨x2, rfl, hx2, hb4⟩; have bd : ∀ (b o : Nat), b < w2.heap.size → w4.cell? ⟨b, o, none⟩ = w2.cell? ⟨b, o, none⟩ := fun b o h => ((bcell hb4).1 b o (Nat.lt_of_lt_of_le h hb3.size)).trans (bc b o h))
    | (go_at_call 22; refine (HDO.out _ _ _ _ _ (hx1.fresh hb4) hx2).mono ?_; rintro e w5 ⟨x3, rfl, hx3, hb5⟩; have be : ∀ (b o : Nat), b < w2.heap.size → w5.cell? ⟨b, o, none⟩ = w2.cell? ⟨b, o, none⟩ := fun b o h => ((bcell hb5).1 b o (Nat.lt_of_lt_of_le (Nat.lt_of_lt_of_le h hb3.size) hb4.size)).trans (bd b o h); have hb25 := hb3.trans ((hb4.mono hb3.size).trans (hb5.mono (Nat.le_trans hb3.size hb4.size))))
    | (go_at_call 42; refine (HRA.out _ _ (HB2.out.trans (hb25.mono HB2.out.size)) hx3).mono ?_; rintro e w6 ⟨rfl, hb6⟩
       have bf : ∀ (b o : Nat), b < w2.heap.size → w6.cell? ⟨b, o, none⟩ = w2.cell? ⟨b, o, none⟩ := fun b o h => ((bcell hb6).1 b o (Nat.lt_of_lt_of_le (Nat.lt_of_lt_of_le (Nat.lt_of_lt_of_le h hb3.size) hb4.size) hb5.size)).trans (be b o h)
       have hb26 := hb25.trans (hb6.mono hb25.size)
       have KR5 := KR2.out.below hb26 KR2.out.lt
       have e0 := KR5.cell 0
       have e1 := KR5.cell 1
       have f0 := KR5.frozen 0
       have f1 := KR5.frozen 1
       simp only [List.getElem?_toArray, List.getElem?_cons_zero, List.getElem?_cons_succ] at e0 e1)))
  have KR6 := Lib.hid KR5
  have HBE := Lib.hid (HB2.out.trans (hb26.mono HB2.out.size))
  clear hb3 hb4 hb5 hb6 hb25 hb26 hx1 hx2 hx3 bc bd be bf a0 a1 b0 b1 za zb e0 e1 f0 f1 KR5 HOA HOB HDO HRA
  go_wp2_with fail
  refine bodyPost_ret (v := .tuple #[.agg #[.string sq, .string tq], .int .i64 0]) ?_ ?_ ?_
  · exact res_row_tmp (p := 6) (u := 7) (ty := 27) (fn := Tryz.f21) rfl _ _ (w.heap.size + 1 + 1) 27 #[.string sq, .string tq] _ rfl (blk2' w6 _ 27 _ _ _ _ KR6.out) Tryz.underlying27 rfl rat_size
  · rfl
  exact ⟨rfl, ((Keeps.of_below HBE.out (fun _ => False)).trans (keeps2' w6 (w.heap.size + 1 + 1) _ _) (fun i hi h => by omega)).to_below⟩

set_option maxRecDepth 100000 in
set_option maxHeartbeats 8000000 in
theorem two_mul (w : World) (a b : Rat) (k : Nat) (ha : Sz a k) (hb : Sz b k) (hk : k ≤ 40000) (htb : Tb w) :
    Calls Tryz.prog 21 #[ratV a, ratV b, .func (.func 23) #[] #[]] w fun e w' => e = .returned (.tuple #[ratV (a * b), .int .i64 0]) ∧ Below w.heap.size w w' := by
  have HCA := Lib.hid (fun W => ncheck_any W a (ha.le (by omega)))
  have HCB := Lib.hid (fun W => ncheck_any W b (hb.le (by omega)))
  have HOA := Lib.hid (fun W => fof_any W a (ha.le (by omega)))
  have HOB := Lib.hid (fun W => fof_any W b (hb.le (by omega)))
  have HDO : Hid (∀ (W : World) (T T' : Nat → Prop) (x y : Value), FR W T x a → FR W T' y b → Calls Tryz.prog 23 #[x, y] W fun e w' => ∃ r, e = .returned r ∧ FR w' (fun _ => True) r (a * b) ∧ Below W.heap.size W w') := Lib.hid fun W T T' x y hx hy => (fmul_any W T T' x y a b k hx hy ha hb hk).mono fun e w' ⟨r, h1, h2, h3⟩ => ⟨r, h1, h2.more (fun _ _ _ => trivial), h3⟩
  have HRA : Hid (∀ (W : World) (x : Value), Below w.heap.size w W → FR W (fun _ => True) x (a * b) → Calls Tryz.prog 42 #[x] W fun e w' => e = .returned (ratV (a * b)) ∧ Below W.heap.size W w') := Lib.hid fun W x hW hx => rat_any W _ x _ hx ((ha.mulR hb).le (by omega)) (htb.below hW)
  unfold ratV at *
  generalize a * b = q at *
  generalize numB a = sa at *
  generalize decB a.den = ta at *
  generalize numB b = sb at *
  generalize decB b.den = tb at *
  generalize numB q = sq at *
  generalize decB q.den = tq at *
  clear ha hb hk htb
  have ka := ((Blk.new w 27 #[.string sa, .string ta]).alloc (.cells #[.string sb, .string tb] 27)).alloc (.cells #[.string ⟨#[]⟩, .string ⟨#[]⟩] 27)
  have kb := (Blk.new (w.alloc (.cells #[.string sa, .string ta] 27)) 27 #[.string sb, .string tb]).alloc (.cells #[.string ⟨#[]⟩, .string ⟨#[]⟩] 27)
  have kr := Blk.new ((w.alloc (.cells #[.string sa, .string ta] 27)).alloc (.cells #[.string sb, .string tb] 27)) 27 #[.string ⟨#[]⟩, .string ⟨#[]⟩]
  have hb0 := (((Below.refl w.heap.size w).alloc (Nat.le_refl _) (.cells #[.string sa, .string ta] 27)).alloc (by simp) (.cells #[.string sb, .string tb] 27)).alloc (by simp; omega) (.cells #[.string ⟨#[]⟩, .string ⟨#[]⟩] 27)
  simp only [World.size_alloc] at kb kr
  have KA := Lib.hid ka
  have KB := Lib.hid kb
  have KR := Lib.hid kr
  have HB0 := Lib.hid hb0
  clear ka kb kr hb0
  go_enter Tryz.func21, Tryz.ntmps21
  go_wp2_with fail
  refine (HCA.out _).mono ?_
  rintro e w1 ⟨rfl, hb1⟩
  have KA1 := Lib.hid (KA.out.below hb1 KA.out.lt)
  have KB1 := Lib.hid (KB.out.below hb1 KB.out.lt)
  have KR1 := Lib.hid (KR.out.below hb1 KR.out.lt)
  have HB1 := Lib.hid (HB0.out.trans (hb1.mono HB0.out.size))
  clear hb1 KA KB KR HB0
  have b0 : w1.cell? ⟨w.heap.size + 1, 0, none⟩ = some (.string sb) := KB1.out.cell 0
  have b1 : w1.cell? ⟨w.heap.size + 1, 1, none⟩ = some (.string tb) := KB1.out.cell 1
  go_wp2_with fail
  refine (HCB.out _).mono ?_
  rintro e w2 ⟨rfl, hb2⟩
  have KA2 := Lib.hid (KA1.out.below hb2 KA1.out.lt)
  have KB2 := Lib.hid (KB1.out.below hb2 KB1.out.lt)
  have KR2 := Lib.hid (KR1.out.below hb2 KR1.out.lt)
  have HB2 := Lib.hid (HB1.out.trans (hb2.mono HB1.out.size))
  clear hb2 KA1 KB1 KR1 HB1 b0 b1 HCA HCB
  have a0 : w2.cell? ⟨w.heap.size, 0, none⟩ = some (.string sa) := KA2.out.cell 0
  have a1 : w2.cell? ⟨w.heap.size, 1, none⟩ = some (.string ta) := KA2.out.cell 1
  have b0 : w2.cell? ⟨w.heap.size + 1, 0, none⟩ = some (.string sb) := KB2.out.cell 0
  have b1 : w2.cell? ⟨w.heap.size + 1, 1, none⟩ = some (.string tb) := KB2.out.cell 1
  have za := KA2.out.lt
  have zb := KB2.out.lt
  have zr0 : w.heap.size ≠ w.heap.size + 1 + 1 := by omega
  have zr1 : w.heap.size + 1 ≠ w.heap.size + 1 + 1 := by omega
  go_wp2_with fail
  go_region_held3 (fun w' => w'.cell? ⟨w.heap.size, 0, none⟩ = some (.string sa) ∧ w'.cell? ⟨w.heap.size, 1, none⟩ = some (.string ta) ∧ w'.cell? ⟨w.heap.size + 1, 0, none⟩ = some (.string sb) ∧ w'.cell? ⟨w.heap.size + 1, 1, none⟩ = some (.string tb)) (first | (go_keep; done) | exact ⟨(be _ _ za).trans a0, (be _ _ za).trans a1, (be _ _ zb).trans b0, (be _ _ zb).trans b1⟩ | exact ⟨(bd _ _ za).trans a0, (bd _ _ za).trans a1, (bd _ _ zb).trans b0, (bd _ _ zb).trans b1⟩ | exact ⟨(bc _ _ za).trans a0, (bc _ _ za).trans a1, (bc _ _ zb).trans b0, (bc _ _ zb).trans b1⟩ | exact ⟨(bf _ _ za).trans a0, (bf _ _ za).trans a1, (bf _ _ zb).trans b0, (bf _ _ zb).trans b1⟩ | exact ⟨(far2 _ _ _ _ _ _ zr0).trans ((bf _ _ za).trans a0), (far2 _ _ _ _ _ _ zr0).trans ((bf _ _ za).trans a1), (far2 _ _ _ _ _ _ zr1).trans ((bf _ _ zb).trans b0), (far2 _ _ _ _ _ _ zr1).trans ((bf _ _ zb).trans b1)⟩) ((first
    | (go_at_call 41; with_reducible show Calls _ _ #[Value.agg #[Value.string sa, Value.string ta]] _ _; refine (HOA.out _).mono ?_; rintro e w3 ⟨x1, rfl, hx1, hb3⟩; replace hb3 := below_start hb3; have bc := (bcell hb3).1)
    | (go_at_call 41; with_reducible show Calls _ _ #[Value.agg #[Value.string sb, Value.string tb]] _ _; refine (HOB.out _).mono ?_; rintro e w4 ⟨x2, rfl, hx2, hb4⟩; have bd : ∀ (b o : Nat), b < w2.heap.size → w4.cell? ⟨b, o, none⟩ = w2.cell? ⟨b, o, none⟩ := fun b o h => ((bcell hb4).1 b o (Nat.lt_of_lt_of_le h hb3.size)).trans (bc b o h))
    | (go_at_call 23; refine (HDO.out _ _ _ _ _ (hx1.fresh hb4) hx2).mono ?_; rintro e w5 ⟨x3, rfl, hx3, hb5⟩; have be : ∀ (b o : Nat), b < w2.heap.size → w5.cell? ⟨b, o, none⟩ = w2.cell? ⟨b, o, none⟩ := fun b o h => ((bcell hb5).1 b o (Nat.lt_of_lt_of_le (Nat.lt_of_lt_of_le h hb3.size) hb4.size)).trans (bd b o h); have hb25 := hb3.trans ((hb4.mono hb3.size).trans (hb5.mono (Nat.le_trans hb3.size hb4.size))))
    | (go_at_call 42; refine (HRA.out _ _ (HB2.out.trans (hb25.mono HB2.out.size)) hx3).mono ?_; rintro e w6 ⟨rfl, hb6⟩
       have bf : ∀ (b o : Nat), b < w2.heap.size → w6.cell? ⟨b, o, none⟩ = w2.cell? ⟨b, o, none⟩ := fun b o h => ((bcell hb6).1 b o (Nat.lt_of_lt_of_le (Nat.lt_of_lt_of_le (Nat.lt_of_lt_of_le h hb3.size) hb4.size) hb5.size)).trans (be b o h)
       have hb26 := hb25.trans (hb6.mono hb25.size)
       have KR5 := KR2.out.below hb26 KR2.out.lt
       have e0 := KR5.cell 0
       have e1 := KR5.cell 1
       have f0 := KR5.frozen 0
       have f1 := KR5.frozen 1
       simp only [List.getElem?_toArray, List.getElem?_cons_zero, List.getElem?_cons_succ] at e0 e1)))
  have KR6 := Lib.hid KR5
  have HBE := Lib.hid (HB2.out.trans (hb26.mono HB2.out.size))
  clear hb3 hb4 hb5 hb6 hb25 hb26 hx1 hx2 hx3 bc bd be bf a0 a1 b0 b1 za zb e0 e1 f0 f1 KR5 HOA HOB HDO HRA
  go_wp2_with fail
  refine bodyPost_ret (v := .tuple #[.agg #[.string sq, .string tq], .int .i64 0]) ?_ ?_ ?_
  · exact res_row_tmp (p := 6) (u := 7) (ty := 27) (fn := Tryz.f21) rfl _ _ (w.heap.size + 1 + 1) 27 #[.string sq, .string tq] _ rfl (blk2' w6 _ 27 _ _ _ _ KR6.out) Tryz.underlying27 rfl rat_size
  · rfl
  exact ⟨rfl, ((Keeps.of_below HBE.out (fun _ => False)).trans (keeps2' w6 (w.heap.size + 1 + 1) _ _) (fun i hi h => by omega)).to_below⟩

set_option maxRecDepth 100000 in
set_option maxHeartbeats 8000000 in
theorem two_sub (w : World) (a b : Rat) (k : Nat) (ha : Sz a k) (hb : Sz b k) (hk : k ≤ 40000) (htb : Tb w) :
    Calls Tryz.prog 21 #[ratV a, ratV b, .func (.func 24) #[] #[]] w fun e w' => e = .returned (.tuple #[ratV (a - b), .int .i64 0]) ∧ Below w.heap.size w w' := by
  have HCA := Lib.hid (fun W => ncheck_any W a (ha.le (by omega)))
  have HCB := Lib.hid (fun W => ncheck_any W b (hb.le (by omega)))
  have HOA := Lib.hid (fun W => fof_any W a (ha.le (by omega)))
  have HOB := Lib.hid (fun W => fof_any W b (hb.le (by omega)))
  have HDO : Hid (∀ (W : World) (T T' : Nat → Prop) (x y : Value), FR W T x a → FR W T' y b → Calls Tryz.prog 24 #[x, y] W fun e w' => ∃ r, e = .returned r ∧ FR w' (fun _ => True) r (a - b) ∧ Below W.heap.size W w') := Lib.hid fun W T T' x y hx hy => (fsub_any W T T' x y a b k hx hy ha hb hk).mono fun e w' ⟨r, h1, h2, h3⟩ => ⟨r, h1, h2.more (fun _ _ _ => trivial), h3⟩
  have HRA : Hid (∀ (W : World) (x : Value), Below w.heap.size w W → FR W (fun _ => True) x (a - b) → Calls Tryz.prog 42 #[x] W fun e w' => e = .returned (ratV (a - b)) ∧ Below W.heap.size W w') := Lib.hid fun W x hW hx => rat_any W _ x _ hx ((ha.sub hb).le (by omega)) (htb.below hW)
  unfold ratV at *
  generalize a - b = q at *
  generalize numB a = sa at *
  generalize decB a.den = ta at *
  generalize numB b = sb at *
  generalize decB b.den = tb at *
  generalize numB q = sq at *
  generalize decB q.den = tq at *
  clear ha hb hk htb
  have ka := ((Blk.new w 27 #[.string sa, .string ta]).alloc (.cells #[.string sb, .string tb] 27)).alloc (.cells #[.string ⟨#[]⟩, .string ⟨#[]⟩] 27)
  have kb := (Blk.new (w.alloc (.cells #[.string sa, .string ta] 27)) 27 #[.string sb, .string tb]).alloc (.cells #[.string ⟨#[]⟩, .string ⟨#[]⟩] 27)
  have kr := Blk.new ((w.alloc (.cells #[.string sa, .string ta] 27)).alloc (.cells #[.string sb, .string tb] 27)) 27 #[.string ⟨#[]⟩, .string ⟨#[]⟩]
  have hb0 := (((Below.refl w.heap.size w).alloc (Nat.le_refl _) (.cells #[.string sa, .string ta] 27)).alloc (by simp) (.cells #[.string sb, .string tb] 27)).alloc (by simp; omega) (.cells #[.string ⟨#[]⟩, .string ⟨#[]⟩] 27)
  simp only [World.size_alloc] at kb kr
  have KA := Lib.hid ka
  have KB := Lib.hid kb
  have KR := Lib.hid kr
  have HB0 := Lib.hid hb0
  clear ka kb kr hb0
  go_enter Tryz.func21, Tryz.ntmps21
  go_wp2_with fail
  refine (HCA.out _).mono ?_
  rintro e w1 ⟨rfl, hb1⟩
  have KA1 := Lib.hid (KA.out.below hb1 KA.out.lt)
  have KB1 := Lib.hid (KB.out.below hb1 KB.out.lt)
  have KR1 := Lib.hid (KR.out.below hb1 KR.out.lt)
  have HB1 := Lib.hid (HB0.out.trans (hb1.mono HB0.out.size))
  clear hb1 KA KB KR HB0
  have b0 : w1.cell? ⟨w.heap.size + 1, 0, none⟩ = some (.string sb) := KB1.out.cell 0
  have b1 : w1.cell? ⟨w.heap.size + 1, 1, none⟩ = some (.string tb) := KB1.out.cell 1
  go_wp2_with fail
  refine (HCB.out _).mono ?_
  rintro e w2 ⟨rfl, hb2⟩
  have KA2 := Lib.hid (KA1.out.below hb2 KA1.out.lt)
  have KB2 := Lib.hid (KB1.out.below hb2 KB1.out.lt)
  have KR2 := Lib.hid (KR1.out.below hb2 KR1.out.lt)
  have HB2 := Lib.hid (HB1.out.trans (hb2.mono HB1.out.size))
  clear hb2 KA1 KB1 KR1 HB1 b0 b1 HCA HCB
  have a0 : w2.cell? ⟨w.heap.size, 0, none⟩ = some (.string sa) := KA2.out.cell 0
  have a1 : w2.cell? ⟨w.heap.size, 1, none⟩ = some (.string ta) := KA2.out.cell 1
  have b0 : w2.cell? ⟨w.heap.size + 1, 0, none⟩ = some (.string sb) := KB2.out.cell 0
  have b1 : w2.cell? ⟨w.heap.size + 1, 1, none⟩ = some (.string tb) := KB2.out.cell 1
  have za := KA2.out.lt
  have zb := KB2.out.lt
  have zr0 : w.heap.size ≠ w.heap.size + 1 + 1 := by omega
  have zr1 : w.heap.size + 1 ≠ w.heap.size + 1 + 1 := by omega
  go_wp2_with fail
  go_region_held3 (fun w' => w'.cell? ⟨w.heap.size, 0, none⟩ = some (.string sa) ∧ w'.cell? ⟨w.heap.size, 1, none⟩ = some (.string ta) ∧ w'.cell? ⟨w.heap.size + 1, 0, none⟩ = some (.string sb) ∧ w'.cell? ⟨w.heap.size + 1, 1, none⟩ = some (.string tb)) (first | (go_keep; done) | exact ⟨(be _ _ za).trans a0, (be _ _ za).trans a1, (be _ _ zb).trans b0, (be _ _ zb).trans b1⟩ | exact ⟨(bd _ _ za).trans a0, (bd _ _ za).trans a1, (bd _ _ zb).trans b0, (bd _ _ zb).trans b1⟩ | exact ⟨(bc _ _ za).trans a0, (bc _ _ za).trans a1, (bc _ _ zb).trans b0, (bc _ _ zb).trans b1⟩ | exact ⟨(bf _ _ za).trans a0, (bf _ _ za).trans a1, (bf _ _ zb).trans b0, (bf _ _ zb).trans b1⟩ | exact ⟨(far2 _ _ _ _ _ _ zr0).trans ((bf _ _ za).trans a0), (far2 _ _ _ _ _ _ zr0).trans ((bf _ _ za).trans a1), (far2 _ _ _ _ _ _ zr1).trans ((bf _ _ zb).trans b0), (far2 _ _ _ _ _ _ zr1).trans ((bf _ _ zb).trans b1)⟩) ((first
    | (go_at_call 41; with_reducible show Calls _ _ #[Value.agg #[Value.string sa, Value.string ta]] _ _; refine (HOA.out _).mono ?_; rintro e w3 ⟨x1, rfl, hx1, hb3⟩; replace hb3 := below_start hb3; have bc := (bcell hb3).1)
    | (go_at_call 41; with_reducible show Calls _ _ #[Value.agg #[Value.string sb, Value.string tb]] _ _; refine (HOB.out _).mono ?_; rintro e w4 ⟨x2, rfl, hx2, hb4⟩; have bd : ∀ (b o : Nat), b < w2.heap.size → w4.cell? ⟨b, o, none⟩ = w2.cell? ⟨b, o, none⟩ := fun b o h => ((bcell hb4).1 b o (Nat.lt_of_lt_of_le h hb3.size)).trans (bc b o h))
    | (go_at_call 24; refine (HDO.out _ _ _ _ _ (hx1.fresh hb4) hx2).mono ?_; rintro e w5 ⟨x3, rfl, hx3, hb5⟩; have be : ∀ (b o : Nat), b < w2.heap.size → w5.cell? ⟨b, o, none⟩ = w2.cell? ⟨b, o, none⟩ := fun b o h => ((bcell hb5).1 b o (Nat.lt_of_lt_of_le (Nat.lt_of_lt_of_le h hb3.size) hb4.size)).trans (bd b o h); have hb25 := hb3.trans ((hb4.mono hb3.size).trans (hb5.mono (Nat.le_trans hb3.size hb4.size))))
    | (go_at_call 42; refine (HRA.out _ _ (HB2.out.trans (hb25.mono HB2.out.size)) hx3).mono ?_; rintro e w6 ⟨rfl, hb6⟩
       have bf : ∀ (b o : Nat), b < w2.heap.size → w6.cell? ⟨b, o, none⟩ = w2.cell? ⟨b, o, none⟩ := fun b o h => ((bcell hb6).1 b o (Nat.lt_of_lt_of_le (Nat.lt_of_lt_of_le (Nat.lt_of_lt_of_le h hb3.size) hb4.size) hb5.size)).trans (be b o h)
       have hb26 := hb25.trans (hb6.mono hb25.size)
       have KR5 := KR2.out.below hb26 KR2.out.lt
       have e0 := KR5.cell 0
       have e1 := KR5.cell 1
       have f0 := KR5.frozen 0
       have f1 := KR5.frozen 1
       simp only [List.getElem?_toArray, List.getElem?_cons_zero, List.getElem?_cons_succ] at e0 e1)))
  have KR6 := Lib.hid KR5
  have HBE := Lib.hid (HB2.out.trans (hb26.mono HB2.out.size))
  clear hb3 hb4 hb5 hb6 hb25 hb26 hx1 hx2 hx3 bc bd be bf a0 a1 b0 b1 za zb e0 e1 f0 f1 KR5 HOA HOB HDO HRA
  go_wp2_with fail
  refine bodyPost_ret (v := .tuple #[.agg #[.string sq, .string tq], .int .i64 0]) ?_ ?_ ?_
  · exact res_row_tmp (p := 6) (u := 7) (ty := 27) (fn := Tryz.f21) rfl _ _ (w.heap.size + 1 + 1) 27 #[.string sq, .string tq] _ rfl (blk2' w6 _ 27 _ _ _ _ KR6.out) Tryz.underlying27 rfl rat_size
  · rfl
  exact ⟨rfl, ((Keeps.of_below HBE.out (fun _ => False)).trans (keeps2' w6 (w.heap.size + 1 + 1) _ _) (fun i hi h => by omega)).to_below⟩

set_option maxRecDepth 100000 in
set_option maxHeartbeats 8000000 in
theorem two_div (w : World) (a b : Rat) (k : Nat) (ha : Sz a k) (hb : Sz b k) (hk : k ≤ 40000) (h0 : b ≠ 0) (htb : Tb w) :
    Calls Tryz.prog 21 #[ratV a, ratV b, .func (.func 28) #[] #[]] w fun e w' => e = .returned (.tuple #[ratV (a / b), .int .i64 0]) ∧ Below w.heap.size w w' := by
  have HCA := Lib.hid (fun W => ncheck_any W a (ha.le (by omega)))
  have HCB := Lib.hid (fun W => ncheck_any W b (hb.le (by omega)))
  have HOA := Lib.hid (fun W => fof_any W a (ha.le (by omega)))
  have HOB := Lib.hid (fun W => fof_any W b (hb.le (by omega)))
  have HDO : Hid (∀ (W : World) (T T' : Nat → Prop) (x y : Value), FR W T x a → FR W T' y b → Calls Tryz.prog 28 #[x, y] W fun e w' => ∃ r, e = .returned r ∧ FR w' (fun _ => True) r (a / b) ∧ Below W.heap.size W w') := Lib.hid fun W T T' x y hx hy => (fdiv_any W T T' x y a b k hx hy ha hb hk h0).mono fun e w' ⟨r, h1, h2, h3⟩ => ⟨r, h1, h2.more (fun _ _ _ => trivial), h3⟩
  have HRA : Hid (∀ (W : World) (x : Value), Below w.heap.size w W → FR W (fun _ => True) x (a / b) → Calls Tryz.prog 42 #[x] W fun e w' => e = .returned (ratV (a / b)) ∧ Below W.heap.size W w') := Lib.hid fun W x hW hx => rat_any W _ x _ hx ((ha.divR hb h0).le (by omega)) (htb.below hW)
  unfold ratV at *
  generalize a / b = q at *
  generalize numB a = sa at *
  generalize decB a.den = ta at *
  generalize numB b = sb at *
  generalize decB b.den = tb at *
  generalize numB q = sq at *
  generalize decB q.den = tq at *
  clear ha hb hk htb h0
  have ka := ((Blk.new w 27 #[.string sa, .string ta]).alloc (.cells #[.string sb, .string tb] 27)).alloc (.cells #[.string ⟨#[]⟩, .string ⟨#[]⟩] 27)
  have kb := (Blk.new (w.alloc (.cells #[.string sa, .string ta] 27)) 27 #[.string sb, .string tb]).alloc (.cells #[.string ⟨#[]⟩, .string ⟨#[]⟩] 27)
  have kr := Blk.new ((w.alloc (.cells #[.string sa, .string ta] 27)).alloc (.cells #[.string sb, .string tb] 27)) 27 #[.string ⟨#[]⟩, .string ⟨#[]⟩]
  have hb0 := (((Below.refl w.heap.size w).alloc (Nat.le_refl _) (.cells #[.string sa, .string ta] 27)).alloc (by simp) (.cells #[.string sb, .string tb] 27)).alloc (by simp; omega) (.cells #[.string ⟨#[]⟩, .string ⟨#[]⟩] 27)
  simp only [World.size_alloc] at kb kr
  have KA := Lib.hid ka
  have KB := Lib.hid kb
  have KR := Lib.hid kr
  have HB0 := Lib.hid hb0
  clear ka kb kr hb0
  go_enter Tryz.func21, Tryz.ntmps21
  go_wp2_with fail
  refine (HCA.out _).mono ?_
  rintro e w1 ⟨rfl, hb1⟩
  have KA1 := Lib.hid (KA.out.below hb1 KA.out.lt)
  have KB1 := Lib.hid (KB.out.below hb1 KB.out.lt)
  have KR1 := Lib.hid (KR.out.below hb1 KR.out.lt)
  have HB1 := Lib.hid (HB0.out.trans (hb1.mono HB0.out.size))
  clear hb1 KA KB KR HB0
  have b0 : w1.cell? ⟨w.heap.size + 1, 0, none⟩ = some (.string sb) := KB1.out.cell 0
  have b1 : w1.cell? ⟨w.heap.size + 1, 1, none⟩ = some (.string tb) := KB1.out.cell 1
  go_wp2_with fail
  refine (HCB.out _).mono ?_
  rintro e w2 ⟨rfl, hb2⟩
  have KA2 := Lib.hid (KA1.out.below hb2 KA1.out.lt)
  have KB2 := Lib.hid (KB1.out.below hb2 KB1.out.lt)
  have KR2 := Lib.hid (KR1.out.below hb2 KR1.out.lt)
  have HB2 := Lib.hid (HB1.out.trans (hb2.mono HB1.out.size))
  clear hb2 KA1 KB1 KR1 HB1 b0 b1 HCA HCB
  have a0 : w2.cell? ⟨w.heap.size, 0, none⟩ = some (.string sa) := KA2.out.cell 0
  have a1 : w2.cell? ⟨w.heap.size, 1, none⟩ = some (.string ta) := KA2.out.cell 1
  have b0 : w2.cell? ⟨w.heap.size + 1, 0, none⟩ = some (.string sb) := KB2.out.cell 0
  have b1 : w2.cell? ⟨w.heap.size + 1, 1, none⟩ = some (.string tb) := KB2.out.cell 1
  have za := KA2.out.lt
  have zb := KB2.out.lt
  have zr0 : w.heap.size ≠ w.heap.size + 1 + 1 := by omega
  have zr1 : w.heap.size + 1 ≠ w.heap.size + 1 + 1 := by omega
  go_wp2_with fail
  go_region_held3 (fun w' => w'.cell? ⟨w.heap.size, 0, none⟩ = some (.string sa) ∧ w'.cell? ⟨w.heap.size, 1, none⟩ = some (.string ta) ∧ w'.cell? ⟨w.heap.size + 1, 0, none⟩ = some (.string sb) ∧ w'.cell? ⟨w.heap.size + 1, 1, none⟩ = some (.string tb)) (first | (go_keep; done) | exact ⟨(be _ _ za).trans a0, (be _ _ za).trans a1, (be _ _ zb).trans b0, (be _ _ zb).trans b1⟩ | exact ⟨(bd _ _ za).trans a0, (bd _ _ za).trans a1, (bd _ _ zb).trans b0, (bd _ _ zb).trans b1⟩ | exact ⟨(bc _ _ za).trans a0, (bc _ _ za).trans a1, (bc _ _ zb).trans b0, (bc _ _ zb).trans b1⟩ | exact ⟨(bf _ _ za).trans a0, (bf _ _ za).trans a1, (bf _ _ zb).trans b0, (bf _ _ zb).trans b1⟩ | exact ⟨(far2 _ _ _ _ _ _ zr0).trans ((bf _ _ za).trans a0), (far2 _ _ _ _ _ _ zr0).trans ((bf _ _ za).trans a1), (far2 _ _ _ _ _ _ zr1).trans ((bf _ _ zb).trans b0), (far2 _ _ _ _ _ _ zr1).trans ((bf _ _ zb).trans b1)⟩) ((first
    | (go_at_call 41; with_reducible show Calls _ _ #[Value.agg #[Value.string sa, Value.string ta]] _ _; refine (HOA.out _).mono ?_; rintro e w3 ⟨x1, rfl, hx1, hb3⟩; replace hb3 := below_start hb3; have bc := (bcell hb3).1)
    | (go_at_call 41; with_reducible show Calls _ _ #[Value.agg #[Value.string sb, Value.string tb]] _ _; refine (HOB.out _).mono ?_; rintro e w4 ⟨x2, rfl, hx2, hb4⟩; have bd : ∀ (b o : Nat), b < w2.heap.size → w4.cell? ⟨b, o, none⟩ = w2.cell? ⟨b, o, none⟩ := fun b o h => ((bcell hb4).1 b o (Nat.lt_of_lt_of_le h hb3.size)).trans (bc b o h))
    | (go_at_call 28; refine (HDO.out _ _ _ _ _ (hx1.fresh hb4) hx2).mono ?_; rintro e w5 ⟨x3, rfl, hx3, hb5⟩; have be : ∀ (b o : Nat), b < w2.heap.size → w5.cell? ⟨b, o, none⟩ = w2.cell? ⟨b, o, none⟩ := fun b o h => ((bcell hb5).1 b o (Nat.lt_of_lt_of_le (Nat.lt_of_lt_of_le h hb3.size) hb4.size)).trans (bd b o h); have hb25 := hb3.trans ((hb4.mono hb3.size).trans (hb5.mono (Nat.le_trans hb3.size hb4.size))))
    | (go_at_call 42; refine (HRA.out _ _ (HB2.out.trans (hb25.mono HB2.out.size)) hx3).mono ?_; rintro e w6 ⟨rfl, hb6⟩
       have bf : ∀ (b o : Nat), b < w2.heap.size → w6.cell? ⟨b, o, none⟩ = w2.cell? ⟨b, o, none⟩ := fun b o h => ((bcell hb6).1 b o (Nat.lt_of_lt_of_le (Nat.lt_of_lt_of_le (Nat.lt_of_lt_of_le h hb3.size) hb4.size) hb5.size)).trans (be b o h)
       have hb26 := hb25.trans (hb6.mono hb25.size)
       have KR5 := KR2.out.below hb26 KR2.out.lt
       have e0 := KR5.cell 0
       have e1 := KR5.cell 1
       have f0 := KR5.frozen 0
       have f1 := KR5.frozen 1
       simp only [List.getElem?_toArray, List.getElem?_cons_zero, List.getElem?_cons_succ] at e0 e1)))
  have KR6 := Lib.hid KR5
  have HBE := Lib.hid (HB2.out.trans (hb26.mono HB2.out.size))
  clear hb3 hb4 hb5 hb6 hb25 hb26 hx1 hx2 hx3 bc bd be bf a0 a1 b0 b1 za zb e0 e1 f0 f1 KR5 HOA HOB HDO HRA
  go_wp2_with fail
  refine bodyPost_ret (v := .tuple #[.agg #[.string sq, .string tq], .int .i64 0]) ?_ ?_ ?_
  · exact res_row_tmp (p := 6) (u := 7) (ty := 27) (fn := Tryz.f21) rfl _ _ (w.heap.size + 1 + 1) 27 #[.string sq, .string tq] _ rfl (blk2' w6 _ 27 _ _ _ _ KR6.out) Tryz.underlying27 rfl rat_size
  · rfl
  exact ⟨rfl, ((Keeps.of_below HBE.out (fun _ => False)).trans (keeps2' w6 (w.heap.size + 1 + 1) _ _) (fun i hi h => by omega)).to_below⟩

set_option maxRecDepth 100000 in
set_option maxHeartbeats 4000000 in
theorem nadd_any (w : World) (a b : Rat) (k : Nat) (ha : Sz a k) (hb : Sz b k) (hk : k ≤ 40000) (htb : Tb w) :
    Calls Tryz.prog 6 #[ratV a, ratV b] w fun e w' => e = .returned (.tuple #[ratV (a + b), .int .i64 0]) ∧ Below w.heap.size w w' := by
  have HTW : Hid (∀ W, Below w.heap.size w W → Calls Tryz.prog 21 #[ratV a, ratV b, .func (.func 22) #[] #[]] W fun e w' => e = .returned (.tuple #[ratV (a + b), .int .i64 0]) ∧ Below W.heap.size W w') := Lib.hid fun W hW => two_add W a b k ha hb hk (htb.below hW)
  unfold ratV at *
  generalize a + b = q at *
  generalize numB a = sa at *
  generalize decB a.den = ta at *
  generalize numB b = sb at *
  generalize decB b.den = tb at *
  generalize numB q = sq at *
  generalize decB q.den = tq at *
  clear ha hb hk htb
  have kr := Blk.new ((w.alloc (.cells #[.string sa, .string ta] 27)).alloc (.cells #[.string sb, .string tb] 27)) 27 #[.string ⟨#[]⟩, .string ⟨#[]⟩]
  have hb0 := (((Below.refl w.heap.size w).alloc (Nat.le_refl _) (.cells #[.string sa, .string ta] 27)).alloc (by simp) (.cells #[.string sb, .string tb] 27)).alloc (by simp; omega) (.cells #[.string ⟨#[]⟩, .string ⟨#[]⟩] 27)
  simp only [World.size_alloc] at kr
  have KR := Lib.hid kr
  have HB0 := Lib.hid hb0
  clear kr hb0
  go_enter Tryz.func6, Tryz.ntmps6
  go_wp2_with fail
  refine (HTW.out _ HB0.out).mono ?_
  rintro e w5 ⟨rfl, hb5⟩
  have KR5 := Lib.hid (KR.out.below hb5 KR.out.lt)
  have HB5 := Lib.hid (HB0.out.trans (hb5.mono HB0.out.size))
  clear hb5
  have e0 : w5.cell? ⟨w.heap.size + 1 + 1, 0, none⟩ = some (.string ⟨#[]⟩) := KR5.out.cell 0
  have f0 := KR5.out.frozen 0
  have e1 : w5.cell? ⟨w.heap.size + 1 + 1, 1, none⟩ = some (.string ⟨#[]⟩) := KR5.out.cell 1
  have f1 := KR5.out.frozen 1
  go_wp2_with fail
  refine bodyPost_ret (v := .tuple #[.agg #[.string sq, .string tq], .int .i64 0]) ?_ ?_ ?_
  · exact res_row_tmp (p := 4) (u := 5) (ty := 27) (fn := Tryz.f6) rfl _ _ (w.heap.size + 1 + 1) 27 #[.string sq, .string tq] _ rfl (blk2' w5 _ 27 _ _ _ _ KR5.out) Tryz.underlying27 rfl rat_size
  · rfl
  exact ⟨rfl, ((Keeps.of_below HB5.out (fun _ => False)).trans (keeps2' w5 (w.heap.size + 1 + 1) _ _) (fun i hi h => by omega)).to_below⟩

set_option maxRecDepth 100000 in
set_option maxHeartbeats 4000000 in
theorem nmul_any (w : World) (a b : Rat) (k : Nat) (ha : Sz a k) (hb : Sz b k) (hk : k ≤ 40000) (htb : Tb w) :
    Calls Tryz.prog 7 #[ratV a, ratV b] w fun e w' => e = .returned (.tuple #[ratV (a * b), .int .i64 0]) ∧ Below w.heap.size w w' := by
  have HTW : Hid (∀ W, Below w.heap.size w W → Calls Tryz.prog 21 #[ratV a, ratV b, .func (.func 23) #[] #[]] W fun e w' => e = .returned (.tuple #[ratV (a * b), .int .i64 0]) ∧ Below W.heap.size W w') := Lib.hid fun W hW => two_mul W a b k ha hb hk (htb.below hW)
  unfold ratV at *
  generalize a * b = q at *
  generalize numB a = sa at *
  generalize decB a.den = ta at *
  generalize numB b = sb at *
  generalize decB b.den = tb at *
  generalize numB q = sq at *
  generalize decB q.den = tq at *
  clear ha hb hk htb
  have kr := Blk.new ((w.alloc (.cells #[.string sa, .string ta] 27)).alloc (.cells #[.string sb, .string tb] 27)) 27 #[.string ⟨#[]⟩, .string ⟨#[]⟩]
  have hb0 := (((Below.refl w.heap.size w).alloc (Nat.le_refl _) (.cells #[.string sa, .string ta] 27)).alloc (by simp) (.cells #[.string sb, .string tb] 27)).alloc (by simp; omega) (.cells #[.string ⟨#[]⟩, .string ⟨#[]⟩] 27)
  simp only [World.size_alloc] at kr
  have KR := Lib.hid kr
  have HB0 := Lib.hid hb0
  clear kr hb0
  go_enter Tryz.func7, Tryz.ntmps7
  go_wp2_with fail
  refine (HTW.out _ HB0.out).mono ?_
  rintro e w5 ⟨rfl, hb5⟩
  have KR5 := Lib.hid (KR.out.below hb5 KR.out.lt)
  have HB5 := Lib.hid (HB0.out.trans (hb5.mono HB0.out.size))
  clear hb5
  have e0 : w5.cell? ⟨w.heap.size + 1 + 1, 0, none⟩ = some (.string ⟨#[]⟩) := KR5.out.cell 0
  have f0 := KR5.out.frozen 0
  have e1 : w5.cell? ⟨w.heap.size + 1 + 1, 1, none⟩ = some (.string ⟨#[]⟩) := KR5.out.cell 1
  have f1 := KR5.out.frozen 1
  go_wp2_with fail
  refine bodyPost_ret (v := .tuple #[.agg #[.string sq, .string tq], .int .i64 0]) ?_ ?_ ?_
  · exact res_row_tmp (p := 4) (u := 5) (ty := 27) (fn := Tryz.f7) rfl _ _ (w.heap.size + 1 + 1) 27 #[.string sq, .string tq] _ rfl (blk2' w5 _ 27 _ _ _ _ KR5.out) Tryz.underlying27 rfl rat_size
  · rfl
  exact ⟨rfl, ((Keeps.of_below HB5.out (fun _ => False)).trans (keeps2' w5 (w.heap.size + 1 + 1) _ _) (fun i hi h => by omega)).to_below⟩

set_option maxRecDepth 100000 in
set_option maxHeartbeats 4000000 in
theorem nsub_any (w : World) (a b : Rat) (k : Nat) (ha : Sz a k) (hb : Sz b k) (hk : k ≤ 40000) (htb : Tb w) :
    Calls Tryz.prog 8 #[ratV a, ratV b] w fun e w' => e = .returned (.tuple #[ratV (a - b), .int .i64 0]) ∧ Below w.heap.size w w' := by
  have HTW : Hid (∀ W, Below w.heap.size w W → Calls Tryz.prog 21 #[ratV a, ratV b, .func (.func 24) #[] #[]] W fun e w' => e = .returned (.tuple #[ratV (a - b), .int .i64 0]) ∧ Below W.heap.size W w') := Lib.hid fun W hW => two_sub W a b k ha hb hk (htb.below hW)
  unfold ratV at *
  generalize a - b = q at *
  generalize numB a = sa at *
  generalize decB a.den = ta at *
  generalize numB b = sb at *
  generalize decB b.den = tb at *
  generalize numB q = sq at *
  generalize decB q.den = tq at *
  clear ha hb hk htb
  have kr := Blk.new ((w.alloc (.cells #[.string sa, .string ta] 27)).alloc (.cells #[.string sb, .string tb] 27)) 27 #[.string ⟨#[]⟩, .string ⟨#[]⟩]
  have hb0 := (((Below.refl w.heap.size w).alloc (Nat.le_refl _) (.cells #[.string sa, .string ta] 27)).alloc (by simp) (.cells #[.string sb, .string tb] 27)).alloc (by simp; omega) (.cells #[.string ⟨#[]⟩, .string ⟨#[]⟩] 27)
  simp only [World.size_alloc] at kr
  have KR := Lib.hid kr
  have HB0 := Lib.hid hb0
  clear kr hb0
  go_enter Tryz.func8, Tryz.ntmps8
  go_wp2_with fail
  refine (HTW.out _ HB0.out).mono ?_
  rintro e w5 ⟨rfl, hb5⟩
  have KR5 := Lib.hid (KR.out.below hb5 KR.out.lt)
  have HB5 := Lib.hid (HB0.out.trans (hb5.mono HB0.out.size))
  clear hb5
  have e0 : w5.cell? ⟨w.heap.size + 1 + 1, 0, none⟩ = some (.string ⟨#[]⟩) := KR5.out.cell 0
  have f0 := KR5.out.frozen 0
  have e1 : w5.cell? ⟨w.heap.size + 1 + 1, 1, none⟩ = some (.string ⟨#[]⟩) := KR5.out.cell 1
  have f1 := KR5.out.frozen 1
  go_wp2_with fail
  refine bodyPost_ret (v := .tuple #[.agg #[.string sq, .string tq], .int .i64 0]) ?_ ?_ ?_
  · exact res_row_tmp (p := 4) (u := 5) (ty := 27) (fn := Tryz.f8) rfl _ _ (w.heap.size + 1 + 1) 27 #[.string sq, .string tq] _ rfl (blk2' w5 _ 27 _ _ _ _ KR5.out) Tryz.underlying27 rfl rat_size
  · rfl
  exact ⟨rfl, ((Keeps.of_below HB5.out (fun _ => False)).trans (keeps2' w5 (w.heap.size + 1 + 1) _ _) (fun i hi h => by omega)).to_below⟩
end Go.Proofs.YtempdomhbfokmaaGreatDoor

namespace Go.Proofs.YtempdomhbfokmaaGreatDoor
open Go.RowKit

theorem bytes_add_list (a b : ByteArray) : (a ++ b).data.toList = a.data.toList ++ b.data.toList := by simp
theorem numB_ne0 (q : Rat) (h : q ≠ 0) : ¬ (numB q).toList = [48] := by
  have hn : q.num ≠ 0 := fun h2 => h (Rat.num_eq_zero.1 h2)
  unfold numB
  cases hg : ngN q
  · rw [if_neg (by simp), decB_toList]
    exact dec_not0 _ (by omega)
  · rw [if_pos rfl, ByteArray.toList_eq, bytes_add_list]
    intro h2
    have h3 := congrArg List.head? h2
    simp at h3
set_option maxRecDepth 100000 in
set_option maxHeartbeats 8000000 in
theorem ndiv_any (w : World) (a b : Rat) (k : Nat) (ha : Sz a k) (hb : Sz b k) (hk : k ≤ 40000) (h0 : b ≠ 0) (htb : Tb w) :
    Calls Tryz.prog 10 #[ratV a, ratV b] w fun e w' => e = .returned (.tuple #[ratV (a / b), .int .i64 0]) ∧ Below w.heap.size w w' := by
  have HCA := Lib.hid (fun W => ncheck_any W a (ha.le (by omega)))
  have HCB := Lib.hid (fun W => ncheck_any W b (hb.le (by omega)))
  have HTW : Hid (∀ W, Below w.heap.size w W → Calls Tryz.prog 21 #[ratV a, ratV b, .func (.func 28) #[] #[]] W fun e w' => e = .returned (.tuple #[ratV (a / b), .int .i64 0]) ∧ Below W.heap.size W w') := Lib.hid fun W hW => two_div W a b k ha hb hk h0 (htb.below hW)
  have hz := numB_ne0 b h0
  have hz' : ((numB b).toList == [48]) = false := by simpa using hz
  unfold ratV at *
  generalize a / b = q at *
  generalize numB a = sa at *
  generalize decB a.den = ta at *
  generalize numB b = sb at *
  generalize decB b.den = tb at *
  generalize numB q = sq at *
  generalize decB q.den = tq at *
  clear ha hb hk htb h0
  have ka := ((Blk.new w 27 #[.string sa, .string ta]).alloc (.cells #[.string sb, .string tb] 27)).alloc (.cells #[.string ⟨#[]⟩, .string ⟨#[]⟩] 27)
  have kb := (Blk.new (w.alloc (.cells #[.string sa, .string ta] 27)) 27 #[.string sb, .string tb]).alloc (.cells #[.string ⟨#[]⟩, .string ⟨#[]⟩] 27)
  have kr := Blk.new ((w.alloc (.cells #[.string sa, .string ta] 27)).alloc (.cells #[.string sb, .string tb] 27)) 27 #[.string ⟨#[]⟩, .string ⟨#[]⟩]
  have hb0 := (((Below.refl w.heap.size w).alloc (Nat.le_refl _) (.cells #[.string sa, .string ta] 27)).alloc (by simp) (.cells #[.string sb, .string tb] 27)).alloc (by simp; omega) (.cells #[.string ⟨#[]⟩, .string ⟨#[]⟩] 27)
  simp only [World.size_alloc] at kb kr
  have KA := Lib.hid ka
  have KB := Lib.hid kb
  have KR := Lib.hid kr
  have HB0 := Lib.hid hb0
  clear ka kb kr hb0
  go_enter Tryz.func10, Tryz.ntmps10
  go_wp2_with fail
  refine (HCA.out _).mono ?_
  rintro e w1 ⟨rfl, hb1⟩
  have KA1 := Lib.hid (KA.out.below hb1 KA.out.lt)
  have KB1 := Lib.hid (KB.out.below hb1 KB.out.lt)
  have KR1 := Lib.hid (KR.out.below hb1 KR.out.lt)
  have HB1 := Lib.hid (HB0.out.trans (hb1.mono HB0.out.size))
  clear hb1 KA KB KR HB0
  have b0 : w1.cell? ⟨w.heap.size + 1, 0, none⟩ = some (.string sb) := KB1.out.cell 0
  have b1 : w1.cell? ⟨w.heap.size + 1, 1, none⟩ = some (.string tb) := KB1.out.cell 1
  have a0 : w1.cell? ⟨w.heap.size, 0, none⟩ = some (.string sa) := KA1.out.cell 0
  have a1 : w1.cell? ⟨w.heap.size, 1, none⟩ = some (.string ta) := KA1.out.cell 1
  have za := KA1.out.lt
  have zb := KB1.out.lt
  go_wp2_with fail
  refine (HCB.out _).mono ?_
  rintro e w2 ⟨rfl, hb2⟩
  have KA2 := Lib.hid (KA1.out.below hb2 KA1.out.lt)
  have KB2 := Lib.hid (KB1.out.below hb2 KB1.out.lt)
  have KR2 := Lib.hid (KR1.out.below hb2 KR1.out.lt)
  have HB2 := Lib.hid (HB1.out.trans (hb2.mono HB1.out.size))
  clear hb2 KA1 KB1 KR1 HB1 b0 b1 a0 a1 HCA HCB za zb
  have a0 : w2.cell? ⟨w.heap.size, 0, none⟩ = some (.string sa) := KA2.out.cell 0
  have a1 : w2.cell? ⟨w.heap.size, 1, none⟩ = some (.string ta) := KA2.out.cell 1
  have b0 : w2.cell? ⟨w.heap.size + 1, 0, none⟩ = some (.string sb) := KB2.out.cell 0
  have b1 : w2.cell? ⟨w.heap.size + 1, 1, none⟩ = some (.string tb) := KB2.out.cell 1
  go_wp2_with fail
  refine (HTW.out _ HB2.out).mono ?_
  rintro e w5 ⟨rfl, hb5⟩
  have KR5 := Lib.hid (KR2.out.below hb5 KR2.out.lt)
  have HB5 := Lib.hid (HB2.out.trans (hb5.mono HB2.out.size))
  clear hb5 KA2 KB2 KR2 HB2 a0 a1 b0 b1
  have e0 : w5.cell? ⟨w.heap.size + 1 + 1, 0, none⟩ = some (.string ⟨#[]⟩) := KR5.out.cell 0
  have f0 := KR5.out.frozen 0
  have e1 : w5.cell? ⟨w.heap.size + 1 + 1, 1, none⟩ = some (.string ⟨#[]⟩) := KR5.out.cell 1
  have f1 := KR5.out.frozen 1
  go_wp2_with fail
  refine bodyPost_ret (v := .tuple #[.agg #[.string sq, .string tq], .int .i64 0]) ?_ ?_ ?_
  · exact res_row_tmp (p := 4) (u := 5) (ty := 27) (fn := Tryz.f10) rfl _ _ (w.heap.size + 1 + 1) 27 #[.string sq, .string tq] _ rfl (blk2' w5 _ 27 _ _ _ _ KR5.out) Tryz.underlying27 rfl rat_size
  · rfl
  exact ⟨rfl, ((Keeps.of_below HB5.out (fun _ => False)).trans (keeps2' w5 (w.heap.size + 1 + 1) _ _) (fun i hi h => by omega)).to_below⟩
end Go.Proofs.YtempdomhbfokmaaGreatDoor

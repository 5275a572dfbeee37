/- What Crc, Hex and Unhex of the reference return. -/
import Derived.Test.YtejckicjfmhhoaaDoorRefA
import Derived.Deep.RegionLaw
namespace Go.Proofs.YtejckicjfmhhoaaDoor
open Go.RowKit Dg

theorem l_xp (a : Word) : bits .xor .i64 (wn a) 3988292384 = wn (wx a poly) := l_x a poly
theorem l_xf (a : Word) : bits .xor .i64 (wn a) 4294967295 = wn (wx a 4294967295#32) := l_x a 4294967295
theorem wn_w8 (c : UInt8) : wn (w8 c) = (c.toNat : Int) := by
  rw [← w8_w]
  have := c.toNat_lt
  omega
theorem l_xc (a : Word) (c : UInt8) : bits .xor .i64 (wn a) (c.toNat : Int) = wn (wx a (w8 c)) := by rw [← wn_w8, l_x]
theorem wn_odd (a : Word) : wn a % 2 = wn (wa a 1#32) := by
  unfold wn wa
  rw [BitVec.toNat_and, show (1#32).toNat = 1 from rfl, Nat.and_one_is_mod]
  omega
theorem tdiv2 (a : Word) : (wn a).tdiv 2 = wn (Dg.wr a 1) := by rw [Int.tdiv_eq_ediv_of_nonneg (wn_nonneg a), shr1]
section
attribute [local go_sem] tdiv2 l_x l_xp l_xf l_xc shr1 wn_odd wrap64_wn

set_option maxRecDepth 100000 in
theorem rcrc_any (s : ByteArray) (w : World) (hs : s.size ≤ 1000000) :
    Calls Tryd.prog 24 #[.string s] w fun e w' => e = .returned (.int .i64 (wn (crc s.data.toList))) ∧ w' = w := by
  go_enter Tryd.func24, Tryd.ntmps24
  go_wp2_with fail
  go_loopw [3, 4] (fun r sh wr => ∃ (i : Nat) (b : Word), i ≤ s.size ∧ r = .int .i64 (wn b) ∧ sh = .int .i64 (i : Int) ∧ Hid (b = crcW 4294967295#32 (s.data.toList.take i)) ∧ wr = w)
    (fun _ sh _ => (s.size - intOf sh).toNat)
  case atStart => exact ⟨0, 4294967295#32, by omega, rfl, rfl, by rfl, rfl⟩
  case round =>
    obtain ⟨i, b, hi, rfl, rfl, HB, rfl⟩ := hrel
    by_cases hlt : i < s.size
    · have hc : s.data.toList[i]? = some s[i] := by
        rw [List.getElem?_eq_getElem (by simpa using hlt)]
        rfl
      have hc8 : s[i].toNat < 256 := s[i].toNat_lt
      go_wp2_with fail
      go_loopw [3, 5] (fun r sh wz => ∃ (j : Nat) (b' : Word), j ≤ 8 ∧ r = .int .i64 (wn b') ∧ sh = .int .i64 (j : Int) ∧ Hid (b' = iter cstep j (wx b (w8 s[i]))) ∧ wz = wr)
        (fun _ sh _ => (8 - intOf sh).toNat)
      case atStart => exact ⟨0, _, by omega, rfl, rfl, by rfl, rfl⟩
      case round =>
        obtain ⟨j, b', hj, rfl, rfl, HJ, rfl⟩ := hrel
        have hb0 := wn_nonneg b'
        by_cases hlt2 : j < 8
        · by_cases ho : wn (wa b' 1#32) = 1
          · have ho1 : (wn (wa b' 1#32) == 1) = true := by rw [ho]; rfl
            go_wp2_with fail
            refine ⟨⟨j + 1, wx (Dg.wr b' 1) poly, by omega, by go_num, by go_num, ?_, trivial⟩, by simp [intOf]; omega⟩
            show _ = cstep (iter cstep j _)
            rw [← HJ.out]; unfold cstep; rw [if_pos (wn_one.1 ho)]
          · have ho1 : (wn (wa b' 1#32) == 1) = false := by simpa using ho
            go_wp2_with fail
            refine ⟨⟨j + 1, Dg.wr b' 1, by omega, by rw [wrap64_wn], by go_num, ?_, trivial⟩, by simp [intOf]; omega⟩
            show _ = cstep (iter cstep j _)
            rw [← HJ.out]; unfold cstep; rw [if_neg (mt wn_one.2 ho)]
        · have hj8 : j = 8 := by omega
          subst hj8
          have HN := crc_step HB hc HJ
          clear HJ
          go_wp2_with fail
          refine ⟨⟨i + 1, b', by omega, by go_num, by go_num, HN, trivial⟩, by simp [intOf]; omega⟩
    · go_wp2_with fail
      refine bodyPost_ret (v := .int .i64 (wn (wx b 4294967295#32))) (by simp [results, Tryd.f24, go_sem]) rfl ⟨?_, rfl⟩
      rw [show crc s.data.toList = wx b 4294967295#32 from by rw [HB.out, List.take_of_length_le (by simpa using hlt)]; rfl]
end

set_option maxRecDepth 100000 in
theorem rhex_any (s : ByteArray) (w : World) (hs : s.size ≤ 1000000) :
    Calls Tryd.prog 25 #[.string s] w fun e w' => e = .returned (.string ⟨(hexL s.data.toList).toArray⟩) ∧ Below w.heap.size w w' := by
  go_enter Tryd.func25, Tryd.ntmps25
  obtain ⟨i5, hi5, hz5, hs5, hb5⟩ := info_parts Tryd.info5
  have HI := Lib.hid (And.intro hi5 (And.intro hz5 (And.intro hs5 hb5)))
  clear hi5 hz5 hs5 hb5
  go_wp2_with fail
  go_loopw [3, 4] (fun v sh wr => ∃ (i : Nat) (l : List UInt8), i ≤ s.size ∧ sh = .int .i64 (i : Int) ∧ wr.ownsRow w.heap.size 5 1 v (2 * i) (bc l) ∧ Hid (l = hexL (s.data.toList.take i)) ∧ Below w.heap.size w wr)
    (fun _ sh _ => (s.size - intOf sh).toNat)
  case atStart => exact ⟨0, [], by omega, rfl, World.ownsRow_nil _ _ _ _, by rfl, Below.refl _ _⟩
  case round =>
    obtain ⟨i, l, hi, rfl, hown, HL, hb⟩ := hrel
    obtain ⟨wo, rfl⟩ : ∃ wo : World, wo = wr := ⟨_, rfl⟩
    by_cases hlt : i < s.size
    · have hc : s.data.toList[i]? = some s[i] := by
        rw [List.getElem?_eq_getElem (by simpa using hlt)]
        rfl
      have hc1 : s[i].toNat < 256 := s[i].toNat_lt
      obtain ⟨x, HX, hx, hx16⟩ : ∃ x : Nat, Hid (s[i].toNat / 16 = x) ∧ IntKind.i64.wrap ((s[i].toNat : Int) / 16) = (x : Int) ∧ x < 16 :=
        ⟨s[i].toNat / 16, rfl, by exact wrap_i64 (by omega) (by omega), by omega⟩
      obtain ⟨y, HY, hy, hy16⟩ : ∃ y : Nat, Hid (s[i].toNat % 16 = y) ∧ (s[i].toNat : Int).tmod 16 = (y : Int) ∧ y < 16 :=
        ⟨s[i].toNat % 16, rfl, by rw [Int.tmod_eq_emod_of_nonneg (by omega)]; omega, by omega⟩
      have hwi : IntKind.i64.wrap (s[i].toNat : Int) = (s[i].toNat : Int) := wrap_i64 (by omega) (by omega)
      have HC := Lib.hid hc
      clear hc
      go_wp2_with fail
      have hown1 : wo.drew.ownsRow w.heap.size 5 1 u3 (2 * i) (bc l) := hown
      have hbz := hb.size
      obtain ⟨hi5, hz5, hs5, hb5⟩ := HI.out
      go_region_law (first | (refine step_append_own rfl (.tmp 11) (.tmp 24) 30 rfl w.heap.size 5 i5 (.int .u8 0) 1 1 Tryd.underlying30 hi5 hz5 hs5 hb5 rfl (by decide) _ (2 * i) (bc l) rfl (hown1.alloc _) ⟨wo.heap.size, 0, none⟩ 2 2 [_, _] rfl rfl (cells_new wo.drew [_, _] _) (by simp [Value.oneCell']) (by unfold maxLen; omega) (by omega) (by simp; omega) ?_; intro v1 w1 hown' hgrow') | (go_simp; go_at_call 34; (with_reducible refine (digit_any x _ _ rfl hx16).mono ?_); rintro e w2 ⟨rfl, rfl⟩) | (go_simp; go_at_call 34; (with_reducible refine (digit_any y _ _ rfl hy16).mono ?_); rintro e w2 ⟨rfl, rfl⟩))
      all_goals
        have hb' : Below w.heap.size w w1 := (hb.drew.alloc hbz _).grown hgrow' (by simp; omega) (fun k e => (hown.lt k e).1)
        have hown3 := hex_own (c := s[i]) (x := hexd x) (y := hexd y) (by rw [HX.out]) (by rw [HY.out]) hown'
        clear hown' hgrow' hown1 hown hb
        go_wp2_with fail
        refine ⟨⟨i + 1, _, by omega, by go_num, hown3, ?_, hb'⟩, by simp [intOf]; omega⟩
        show _ = _
        rw [HL.out, List.take_add_one, HC.out]
        simp [hexL]
    · have hcv := own_str hown
      go_wp2_with fail
      refine bodyPost_ret (results_tmp rfl _ _ _) rfl ⟨?_, hb⟩
      rw [HL.out, List.take_of_length_le (by simpa using hlt)]
      rfl

theorem byte_own2 {w : World} {base : Nat} {v : Value} {n : Nat} {l : List UInt8} {z : Int} {b : UInt8} (hz : z = (b.toNat : Int)) (h : w.ownsRow base 5 1 v n (bc l ++ [.int .u8 z])) : w.ownsRow base 5 1 v n (bc (l ++ [b])) := by
  subst hz
  simpa [bc] using h
theorem byte_nat (n : Nat) (h : n < 256) : ((UInt8.ofNat n).toNat : Int) = (n : Int) := by
  rw [UInt8.toNat_ofNat', Nat.mod_eq_of_lt h]

set_option maxRecDepth 100000 in
theorem runhex_any (s : ByteArray) (w : World) (hs : s.size ≤ 1000000) :
    Calls Tryd.prog 19 #[.string s] w fun e w' => e = .returned (maybe (unhexL s.data.toList)) ∧ Below w.heap.size w w' := by
  go_enter Tryd.func19, Tryd.ntmps19
  obtain ⟨i5, hi5, hz5, hs5, hb5⟩ := info_parts Tryd.info5
  have HI := Lib.hid (And.intro hi5 (And.intro hz5 (And.intro hs5 hb5)))
  clear hi5 hz5 hs5 hb5
  by_cases hodd : s.size % 2 = 1
  · have ho : ((s.size : Int) % 2 == 1) = true := by simp; omega
    go_wp2_with fail
    refine bodyPost_ret (v := maybe none) (by simp [results, Tryd.f19, go_sem, maybe]) rfl ⟨?_, Below.refl _ _⟩
    rw [unhexL, unhexA_odd (s.size / 2) [] s.data.toList (by simp; have : s.data.size = s.size := rfl; omega)]
  have ho : ((s.size : Int) % 2 == 1) = false := by simp; omega
  go_wp2_with fail
  go_loopw [4, 5] (fun v sh wr => ∃ (i q : Nat) (l : List UInt8), i ≤ s.size ∧ Hid (i = 2 * q) ∧ sh = .int .i64 (i : Int) ∧ wr.ownsRow w.heap.size 5 1 v q (bc l) ∧ Hid (unhexL s.data.toList = unhexA l (s.data.toList.drop i)) ∧ Below w.heap.size w wr)
    (fun _ sh _ => (s.size - intOf sh).toNat)
  case atStart => exact ⟨0, 0, [], by omega, by rfl, rfl, World.ownsRow_nil _ _ _ _, by rfl, Below.refl _ _⟩
  case round =>
    obtain ⟨i, q, l, hi, HQ, rfl, hown, HL, hb⟩ := hrel
    obtain ⟨wo, rfl⟩ : ∃ wo : World, wo = wr := ⟨_, rfl⟩
    by_cases hlt : i < s.size
    · have hlt1 : i + 1 < s.size := by have := HQ.out; omega
      have hc0 : s.data.toList[i]? = some s[i] := by
        rw [List.getElem?_eq_getElem (by simpa using hlt)]
        rfl
      have hc1 : s.data.toList[i + 1]? = some s[i + 1] := by
        rw [List.getElem?_eq_getElem (by simpa using hlt1)]
        rfl
      have HN := unhex_next HL hc0 hc1
      clear hc0 hc1
      go_wp2_with fail
      refine (value_any _ _).mono ?_
      rintro e w1 ⟨rfl, hw⟩
      obtain rfl : wo = w1 := hw.symm
      clear hw
      go_wp2_with fail
      refine (value_any _ _).mono ?_
      rintro e w1 ⟨rfl, hw⟩
      obtain rfl : wo = w1 := hw.symm
      clear hw
      have hbz := hb.size
      obtain ⟨hi5, hz5, hs5, hb5⟩ := HI.out
      cases e1 : place hexT s[i] with
      | none =>
        rw [e1] at HN
        replace HN : unhexL s.data.toList = none := HN
        simp only [ixI_none]
        clear e1
        have HN := Lib.hid HN
        go_wp2_with fail
        refine bodyPost_ret (v := maybe none) (by simp [results, Tryd.f19, go_sem, maybe]) rfl ⟨by rw [HN.out], hb⟩
      | some x =>
        rw [e1] at HN
        cases e2 : place hexT s[i + 1] with
        | none =>
          rw [e2] at HN
          replace HN : unhexL s.data.toList = none := HN
          simp only [ixI_none, ixI_some]
          clear e1 e2
          have HN := Lib.hid HN
          go_wp2_with fail
          refine bodyPost_ret (v := maybe none) (by simp [results, Tryd.f19, go_sem, maybe]) rfl ⟨by rw [HN.out], hb⟩
        | some y =>
          rw [e2] at HN
          have HN2 : Hid (unhexL s.data.toList = unhexA (l ++ [UInt8.ofNat (16 * x + y)]) (s.data.toList.drop (i + 2))) := HN
          have hx : x < 16 := place_lt _ _ _ e1
          have hy : y < 16 := place_lt _ _ _ e2
          clear HN e1 e2
          simp only [ixI_some]
          have hq5 : q ≤ 500000 := by have := HQ.out; omega
          go_wp2_with (at_builtin; refine wpList_append_own _ rfl _ _ 30 rfl w.heap.size 5 i5 (.int .u8 0) 1 1 Tryd.underlying30 hi5 hz5 hs5 hb5 rfl (by decide) _ _ _ rfl (hown.alloc _) ⟨wo.heap.size, 0, none⟩ 1 1 [_] rfl rfl (cell_one_new _ _ _) (by simp [Value.oneCell']) (by unfold maxLen; omega) (by omega) (by simp; omega) ?_; intro v' w1 hown' hgrow' _)
          have hb' := (hb.alloc hbz _).grown hgrow' (by simp; omega) (fun k e => (hown.lt k e).1)
          refine ⟨⟨i + 2, q + 1, _, by have := HQ.out; omega, by show _ = _; rw [HQ.out]; omega, by go_num, byte_own2 (by rw [byte_nat _ (by omega)]; omega) hown', HN2, hb'⟩, by simp [intOf]; omega⟩
    · have hcv := own_str hown
      go_wp2_with fail
      refine bodyPost_ret (v := maybe (some l)) (by simp [results, Tryd.f19, go_sem, maybe]) rfl ⟨?_, hb⟩
      rw [HL.out, List.drop_of_length_le (by simpa using hlt)]
      rfl
end Go.Proofs.YtejckicjfmhhoaaDoor

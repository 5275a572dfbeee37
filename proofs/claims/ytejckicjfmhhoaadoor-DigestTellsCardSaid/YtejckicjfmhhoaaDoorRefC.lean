/- What Base32 and Unbase32 of the reference return. -/
import Derived.Test.YtejckicjfmhhoaaDoorNum
import Derived.Test.YtejckicjfmhhoaaDoorRefB
import Derived.Test.YtejckicjfmhhoaaDoorF7
namespace Go.Proofs.YtejckicjfmhhoaaDoor
open Go.RowKit Dg

set_option maxRecDepth 100000 in
theorem rbase_any (s : ByteArray) (w : World) (hs : s.size ≤ 1000000) :
    Calls Tryd.prog 26 #[.string s] w fun e w' => e = .returned (.string ⟨(b32L s.data.toList).toArray⟩) ∧ Below w.heap.size w w' := by
  go_enter Tryd.func26, Tryd.ntmps26
  obtain ⟨i5, hi5, hz5, hs5, hb5⟩ := info_parts Tryd.info5
  have HI := Lib.hid (And.intro hi5 (And.intro hz5 (And.intro hs5 hb5)))
  clear hi5 hz5 hs5 hb5
  go_wp2_with fail
  go_loopw [3, 4] (fun v sh wr => ∃ (j : Nat), 5 * j < 8 * s.size + 5 ∧ sh = .int .i64 (5 * (j : Int)) ∧ wr.ownsRow w.heap.size 5 1 v j (bc (rb32 s.data.toList j)) ∧ Below w.heap.size w wr)
    (fun _ sh _ => (8 * s.size + 5 - intOf sh).toNat)
  case atStart => exact ⟨0, by omega, rfl, World.ownsRow_nil _ _ _ _, Below.refl _ _⟩
  case round =>
    obtain ⟨j, hj, rfl, hown, hb⟩ := hrel
    obtain ⟨wq, rfl⟩ : ∃ wq : World, wq = wr := ⟨_, rfl⟩
    have hbz := hb.size
    by_cases hlt : 5 * j < 8 * s.size
    · have hd : decide (5 * (j : Int) < 8 * (s.size : Int)) = true := by simp; omega
      go_wp2_with fail
      go_loop [5, 6] (fun x i => ∃ (k n : Nat), k ≤ 5 ∧ i = .int .i64 (k : Int) ∧ x = .int .i64 (n : Int) ∧ n < 2 ^ k ∧ Hid (n = num s.data.toList (5 * j) k))
        (fun _ i => (5 - intOf i).toNat)
      case atStart => exact ⟨0, 0, by omega, rfl, rfl, by omega, by rfl⟩
      case round =>
        obtain ⟨k, n, hk, rfl, rfl, hn, HN⟩ := hrel
        by_cases hk5 : k < 5
        · have HN2 : Hid (2 * n + bitN s.data.toList (5 * j + k) = num s.data.toList (5 * j) (k + 1)) := by
            show _ = _
            rw [num, ← HN.out]
          have hlt2 : 2 * n + bitN s.data.toList (5 * j + k) < 2 ^ (k + 1) := by rw [HN2.out]; exact num_lt _ _ _
          have hn16 : n < 16 := Nat.lt_of_lt_of_le hn (show 2 ^ k ≤ 2 ^ 4 from Nat.pow_le_pow_right (by omega) (by omega))
          have hbt := bitN_le s.data.toList (5 * j + k)
          obtain ⟨d, hd⟩ : ∃ d, d = bitN s.data.toList (5 * j + k) := ⟨_, rfl⟩
          have HD := Lib.hid hd
          rw [← hd] at HN2 hlt2 hbt
          clear hd hn
          go_wp2_with fail
          refine (bit_any s (5 * j + k) _ _ (by omega) hs).mono ?_
          rintro e w1 ⟨rfl, hw⟩
          obtain rfl : wq = w1 := hw.symm
          clear hw
          rw [← HD.out]
          go_wp2_with fail
          go_round
          case rel => exact ⟨k + 1, 2 * n + d, by omega, by go_num, by go_num, hlt2, HN2⟩
          case measure => simp [intOf]; omega
        · have hk5 : k = 5 := by omega
          subst hk5
          have hn32 : n < 32 := hn
          clear hn
          have hv := dig_val n hn32
          have HS : Hid (rb32 s.data.toList (j + 1) = rb32 s.data.toList j ++ [b32T.getD n 0]) := by
            show _ = _
            rw [rb32_snoc, HN.out]
          have HV := Lib.hid hv
          clear hv
          obtain ⟨hi5, hz5, hs5, hb5⟩ := HI.out
          by_cases h26 : n < 26
          · go_wp2_with (at_builtin; refine wpList_append_own _ rfl _ _ 30 rfl w.heap.size 5 i5 (.int .u8 0) 1 1 Tryd.underlying30 hi5 hz5 hs5 hb5 rfl (by decide) _ _ _ rfl (hown.alloc _) ⟨wq.heap.size, 0, none⟩ 1 1 [_] rfl rfl (cell_one_new _ _ _) (by simp [Value.oneCell']) (by unfold maxLen; omega) (by omega) (by simp; omega) ?_; intro v' w5 hown' hgrow' _)
            have hb' := (hb.alloc hbz _).grown hgrow' (by simp; omega) (fun k e => (hown.lt k e).1)
            have hown2 := byte_own2 (b := b32T.getD n 0) (by rw [HV.out, if_pos h26]) hown'
            rw [← HS.out] at hown2
            refine ⟨⟨j + 1, by omega, by go_num, hown2, hb'⟩, by simp [intOf]; omega⟩
          · go_wp2_with (at_builtin; refine wpList_append_own _ rfl _ _ 30 rfl w.heap.size 5 i5 (.int .u8 0) 1 1 Tryd.underlying30 hi5 hz5 hs5 hb5 rfl (by decide) _ _ _ rfl (hown.alloc _) ⟨wq.heap.size, 0, none⟩ 1 1 [_] rfl rfl (cell_one_new _ _ _) (by simp [Value.oneCell']) (by unfold maxLen; omega) (by omega) (by simp; omega) ?_; intro v' w5 hown' hgrow' _)
            have hb' := (hb.alloc hbz _).grown hgrow' (by simp; omega) (fun k e => (hown.lt k e).1)
            have hown2 := byte_own2 (b := b32T.getD n 0) (by rw [HV.out, if_neg h26]) hown'
            rw [← HS.out] at hown2
            refine ⟨⟨j + 1, by omega, by go_num, hown2, hb'⟩, by simp [intOf]; omega⟩
    · have HL : Hid (rb32 s.data.toList j = b32L s.data.toList) := rb32_law _ _ (by show 8 * s.size ≤ _; omega) (by show _ < 8 * s.size + 5; omega)
      rw [HL.out] at hown
      have hcv := own_str hown
      go_wp2_with fail
      exact bodyPost_ret (results_tmp rfl _ _ _) rfl ⟨rfl, hb⟩

theorem and_mask (m r : Nat) (z : Int) (h : m < 9223372036854775808) (hr : r ≤ 8) (hz : z = 2 ^ r - 1) : bits .and .i64 (m : Int) z = ((m % 2 ^ r : Nat) : Int) := by
  subst hz
  have hp : 2 ^ r ≤ 2 ^ 8 := Nat.pow_le_pow_right (by omega) hr
  have hp0 : 0 < 2 ^ r := Nat.pow_pos (by omega)
  rw [show (2 : Int) ^ r - 1 = ((2 ^ r - 1 : Nat) : Int) by rw [Int.natCast_sub hp0]; simp, (bitsN m (2 ^ r - 1) h (by omega)).2.1, Nat.and_two_pow_sub_one_eq_mod]

theorem step_more {s : List UInt8} {l : List UInt8} {b : Word} {n i x : Nat} (HN : Hid (udec ⟨[], 0, 0⟩ s = udec (ustep ⟨l, b, n⟩ x) (s.drop (i + 1)))) (hn : n < 3) :
    Hid (udec ⟨[], 0, 0⟩ s = udec ⟨l, wo (wl b 5) (BitVec.ofNat 32 x), n + 5⟩ (s.drop (i + 1))) := by
  show _ = _
  rw [HN.out]
  unfold ustep
  rw [if_pos (by simp <;> omega)]
theorem step_byte {s : List UInt8} {l : List UInt8} {b : Word} {r i x : Nat} (HN : Hid (udec ⟨[], 0, 0⟩ s = udec (ustep ⟨l, b, r + 3⟩ x) (s.drop (i + 1)))) :
    Hid (udec ⟨[], 0, 0⟩ s = udec ⟨l ++ [lo (Dg.wr (wo (wl b 5) (BitVec.ofNat 32 x)) r)], wo (wl b 5) (BitVec.ofNat 32 x), r⟩ (s.drop (i + 1))) := by
  show _ = _
  rw [HN.out]
  unfold ustep
  rw [if_neg (by simp)]
  simp only [show r + 3 + 5 - 8 = r by omega]

set_option maxRecDepth 100000 in
set_option maxHeartbeats 2000000 in
theorem runb_any (s : ByteArray) (w : World) (hs : s.size ≤ 1000000) :
    Calls Tryd.prog 20 #[.string s] w fun e w' => e = .returned (maybe (unb32L s.data.toList)) ∧ Below w.heap.size w w' := by
  go_enter Tryd.func20, Tryd.ntmps20
  obtain ⟨i5, hi5, hz5, hs5, hb5⟩ := info_parts Tryd.info5
  have HI := Lib.hid (And.intro hi5 (And.intro hz5 (And.intro hs5 hb5)))
  clear hi5 hz5 hs5 hb5
  go_wp2_with fail
  go_loopw [4, 5, 6, 7] (fun v lv nv sh wr => ∃ (i n k m : Nat) (b : Word) (l : List UInt8), i ≤ s.size ∧ lv = .int .i64 (m : Int) ∧ Hid (m = b.toNat % 2 ^ n) ∧ m < 256 ∧ nv = .int .i64 (n : Int) ∧ n < 8 ∧ k ≤ i ∧ sh = .int .i64 (i : Int) ∧ wr.ownsRow w.heap.size 5 1 v k (bc l) ∧ Hid (udec ⟨[], 0, 0⟩ s.data.toList = udec ⟨l, b, n⟩ (s.data.toList.drop i)) ∧ Below w.heap.size w wr)
    (fun _ _ _ sh _ => (s.size - intOf sh).toNat)
  case atStart => exact ⟨0, 0, 0, 0, 0, [], by omega, rfl, by rfl, by omega, rfl, by omega, by omega, rfl, World.ownsRow_nil _ _ _ _, by rfl, Below.refl _ _⟩
  case round =>
    obtain ⟨i, n, k, m, b, l, hi, rfl, HM, hm, rfl, hn, hk, rfl, hown, HL, hb⟩ := hrel
    obtain ⟨wq, rfl⟩ : ∃ wq : World, wq = wr := ⟨_, rfl⟩
    by_cases hlt : i < s.size
    · have hc : s.data.toList[i]? = some s[i] := by
        rw [List.getElem?_eq_getElem (by simpa using hlt)]
        rfl
      have HN := unb_next HL hc
      clear hc
      have hbz := hb.size
      have hpv := place_val s[i]
      have hc8 : s[i].toNat < 256 := s[i].toNat_lt
      by_cases hbad : place b32T s[i] = none
      · rw [hbad] at HN
        have hun : unb32L s.data.toList = none := by rw [unb32L, show udec ⟨[], 0, 0⟩ s.data.toList = none from HN]
        have HUN := Lib.hid hun
        clear hun HN
        rw [hbad] at hpv
        rcases (show ((s[i].toNat : Int) < 50) ∨ (50 ≤ (s[i].toNat : Int) ∧ (s[i].toNat : Int) ≤ 55) ∨ (55 < (s[i].toNat : Int) ∧ (s[i].toNat : Int) < 97) ∨ (97 ≤ (s[i].toNat : Int) ∧ (s[i].toNat : Int) ≤ 122) ∨ 122 < (s[i].toNat : Int) by omega) with h | ⟨h, h'⟩ | ⟨h, h'⟩ | ⟨h, h'⟩ | h
        · clear hpv hbad
          go_wp2_with fail
          refine bodyPost_ret (v := maybe none) (by simp [results, Tryd.f20, go_sem, maybe]) rfl ⟨by rw [HUN.out], hb⟩
        · rw [if_neg (by omega), if_pos (by omega)] at hpv
          cases hpv
        · clear hpv hbad
          go_wp2_with fail
          refine bodyPost_ret (v := maybe none) (by simp [results, Tryd.f20, go_sem, maybe]) rfl ⟨by rw [HUN.out], hb⟩
        · rw [if_pos (by omega)] at hpv
          cases hpv
        · clear hpv hbad
          go_wp2_with fail
          refine bodyPost_ret (v := maybe none) (by simp [results, Tryd.f20, go_sem, maybe]) rfl ⟨by rw [HUN.out], hb⟩
      · obtain ⟨x, e1⟩ := Option.ne_none_iff_exists'.1 hbad
        clear hbad
        rw [e1] at HN hpv
        have HN2 : Hid (udec ⟨[], 0, 0⟩ s.data.toList = udec (ustep ⟨l, b, n⟩ x) (s.data.toList.drop (i + 1))) := HN
        have hx : x < 32 := place_lt _ _ _ e1
        clear HN e1
        have hkp := keep5 b x n hx hn
        rw [← HM.out] at hkp
        obtain ⟨q, HQ, hq⟩ : ∃ q : Nat, Hid (32 * m + x = q) ∧ 32 * (m : Int) + (x : Int) = (q : Int) := ⟨32 * m + x, rfl, by omega⟩
        have hq13 : q < 8192 := by have := HQ.out; omega
        have HQ2 : Hid (q = (wo (wl b 5) (BitVec.ofNat 32 x)).toNat % 2 ^ (n + 5)) := HQ.out.symm.trans hkp
        clear hkp HQ
        obtain ⟨hi5, hz5, hs5, hb5⟩ := HI.out
        rcases (show (50 ≤ (s[i].toNat : Int) ∧ (s[i].toNat : Int) ≤ 55 ∧ (s[i].toNat : Int) - 50 + 26 = (x : Int)) ∨ (97 ≤ (s[i].toNat : Int) ∧ (s[i].toNat : Int) ≤ 122 ∧ (s[i].toNat : Int) - 97 = (x : Int)) by
            by_cases h1 : 97 ≤ s[i].toNat ∧ s[i].toNat ≤ 122
            · rw [if_pos h1] at hpv
              cases hpv
              exact .inr (by omega)
            · rw [if_neg h1] at hpv
              by_cases h2 : 50 ≤ s[i].toNat ∧ s[i].toNat ≤ 55
              · rw [if_pos h2] at hpv
                cases hpv
                exact .inl (by omega)
              · rw [if_neg h2] at hpv
                cases hpv) with ⟨h, h', hxe⟩ | ⟨h, h', hxe⟩
        all_goals
          clear hpv
          rcases (show n = 0 ∨ n = 1 ∨ n = 2 ∨ n = 3 ∨ n = 4 ∨ n = 5 ∨ n = 6 ∨ n = 7 by omega) with e | e | e | e | e | e | e | e
          · subst e
            have HN3 := step_more HN2 (by omega)
            have hqb : q < 256 := by have := HQ2.out; have := Nat.mod_lt (wo (wl b 5) (BitVec.ofNat 32 x)).toNat (show 0 < 2 ^ (0 + 5) by decide); omega
            clear HN2
            go_wp2_with fail
            refine ⟨⟨i + 1, 5, k, q, _, _, by omega, rfl, HQ2, by omega, by rfl, by omega, by omega, by go_num, hown, HN3, hb⟩, by simp [intOf]; omega⟩
          · subst e
            have HN3 := step_more HN2 (by omega)
            have hqb : q < 256 := by have := HQ2.out; have := Nat.mod_lt (wo (wl b 5) (BitVec.ofNat 32 x)).toNat (show 0 < 2 ^ (1 + 5) by decide); omega
            clear HN2
            go_wp2_with fail
            refine ⟨⟨i + 1, 6, k, q, _, _, by omega, rfl, HQ2, by omega, by rfl, by omega, by omega, by go_num, hown, HN3, hb⟩, by simp [intOf]; omega⟩
          · subst e
            have HN3 := step_more HN2 (by omega)
            have hqb : q < 256 := by have := HQ2.out; have := Nat.mod_lt (wo (wl b 5) (BitVec.ofNat 32 x)).toNat (show 0 < 2 ^ (2 + 5) by decide); omega
            clear HN2
            go_wp2_with fail
            refine ⟨⟨i + 1, 7, k, q, _, _, by omega, rfl, HQ2, by omega, by rfl, by omega, by omega, by go_num, hown, HN3, hb⟩, by simp [intOf]; omega⟩
          · subst e
            have HN3 := step_byte (r := 0) HN2
            have hand := and_mask q 0 0 (by omega) (by omega) (by decide)
            have HR : Hid (q % 2 ^ 0 = (wo (wl b 5) (BitVec.ofNat 32 x)).toNat % 2 ^ 0) := by
              show _ = _
              rw [HQ2.out]; exact keep_rest _ 0
            have HB : Hid (q / 2 ^ 0 = (lo (Dg.wr (wo (wl b 5) (BitVec.ofNat 32 x)) 0)).toNat) := by
              show _ = _
              rw [HQ2.out]; exact keep_lo _ 0
            have hb256 : q / 2 ^ 0 < 256 := by rw [HB.out]; exact UInt8.toNat_lt _
            have hr256 : q % 2 ^ 0 < 256 := by have := Nat.mod_lt q (show 0 < 2 ^ 0 by decide); omega
            clear HN2
            go_wp2_with (at_builtin; refine wpList_append_own _ rfl _ _ 30 rfl w.heap.size 5 i5 (.int .u8 0) 1 1 Tryd.underlying30 hi5 hz5 hs5 hb5 rfl (by decide) _ _ _ rfl (hown.alloc _) ⟨wq.heap.size, 0, none⟩ 1 1 [_] rfl rfl (cell_one_new _ _ _) (by simp [Value.oneCell']) (by unfold maxLen; omega) (by omega) (by simp; omega) ?_; intro v' w5 hown' hgrow' _)
            have hb' := (hb.alloc hbz _).grown hgrow' (by simp; omega) (fun k e => (hown.lt k e).1)
            have hown2 := byte_own2 (b := lo (Dg.wr (wo (wl b 5) (BitVec.ofNat 32 x)) 0)) (by rw [← HB.out]; simp) hown'
            refine ⟨⟨i + 1, 0, k + 1, q % 2 ^ 0, _, _, by omega, by first | rfl | go_num, HR, by omega, by rfl, by omega, by omega, by go_num, hown2, HN3, hb'⟩, by simp [intOf]; omega⟩
          · subst e
            have HN3 := step_byte (r := 1) HN2
            have hand := and_mask q 1 1 (by omega) (by omega) (by decide)
            have HR : Hid (q % 2 ^ 1 = (wo (wl b 5) (BitVec.ofNat 32 x)).toNat % 2 ^ 1) := by
              show _ = _
              rw [HQ2.out]; exact keep_rest _ 1
            have HB : Hid (q / 2 ^ 1 = (lo (Dg.wr (wo (wl b 5) (BitVec.ofNat 32 x)) 1)).toNat) := by
              show _ = _
              rw [HQ2.out]; exact keep_lo _ 1
            have hb256 : q / 2 ^ 1 < 256 := by rw [HB.out]; exact UInt8.toNat_lt _
            have hr256 : q % 2 ^ 1 < 256 := by have := Nat.mod_lt q (show 0 < 2 ^ 1 by decide); omega
            clear HN2
            go_wp2_with (at_builtin; refine wpList_append_own _ rfl _ _ 30 rfl w.heap.size 5 i5 (.int .u8 0) 1 1 Tryd.underlying30 hi5 hz5 hs5 hb5 rfl (by decide) _ _ _ rfl (hown.alloc _) ⟨wq.heap.size, 0, none⟩ 1 1 [_] rfl rfl (cell_one_new _ _ _) (by simp [Value.oneCell']) (by unfold maxLen; omega) (by omega) (by simp; omega) ?_; intro v' w5 hown' hgrow' _)
            have hb' := (hb.alloc hbz _).grown hgrow' (by simp; omega) (fun k e => (hown.lt k e).1)
            have hown2 := byte_own2 (b := lo (Dg.wr (wo (wl b 5) (BitVec.ofNat 32 x)) 1)) (by rw [← HB.out]; simp) hown'
            refine ⟨⟨i + 1, 1, k + 1, q % 2 ^ 1, _, _, by omega, by first | rfl | go_num, HR, by omega, by rfl, by omega, by omega, by go_num, hown2, HN3, hb'⟩, by simp [intOf]; omega⟩
          · subst e
            have HN3 := step_byte (r := 2) HN2
            have hand := and_mask q 2 3 (by omega) (by omega) (by decide)
            have HR : Hid (q % 2 ^ 2 = (wo (wl b 5) (BitVec.ofNat 32 x)).toNat % 2 ^ 2) := by
              show _ = _
              rw [HQ2.out]; exact keep_rest _ 2
            have HB : Hid (q / 2 ^ 2 = (lo (Dg.wr (wo (wl b 5) (BitVec.ofNat 32 x)) 2)).toNat) := by
              show _ = _
              rw [HQ2.out]; exact keep_lo _ 2
            have hb256 : q / 2 ^ 2 < 256 := by rw [HB.out]; exact UInt8.toNat_lt _
            have hr256 : q % 2 ^ 2 < 256 := by have := Nat.mod_lt q (show 0 < 2 ^ 2 by decide); omega
            clear HN2
            go_wp2_with (at_builtin; refine wpList_append_own _ rfl _ _ 30 rfl w.heap.size 5 i5 (.int .u8 0) 1 1 Tryd.underlying30 hi5 hz5 hs5 hb5 rfl (by decide) _ _ _ rfl (hown.alloc _) ⟨wq.heap.size, 0, none⟩ 1 1 [_] rfl rfl (cell_one_new _ _ _) (by simp [Value.oneCell']) (by unfold maxLen; omega) (by omega) (by simp; omega) ?_; intro v' w5 hown' hgrow' _)
            have hb' := (hb.alloc hbz _).grown hgrow' (by simp; omega) (fun k e => (hown.lt k e).1)
            have hown2 := byte_own2 (b := lo (Dg.wr (wo (wl b 5) (BitVec.ofNat 32 x)) 2)) (by rw [← HB.out]; simp) hown'
            refine ⟨⟨i + 1, 2, k + 1, q % 2 ^ 2, _, _, by omega, by first | rfl | go_num, HR, by omega, by rfl, by omega, by omega, by go_num, hown2, HN3, hb'⟩, by simp [intOf]; omega⟩
          · subst e
            have HN3 := step_byte (r := 3) HN2
            have hand := and_mask q 3 7 (by omega) (by omega) (by decide)
            have HR : Hid (q % 2 ^ 3 = (wo (wl b 5) (BitVec.ofNat 32 x)).toNat % 2 ^ 3) := by
              show _ = _
              rw [HQ2.out]; exact keep_rest _ 3
            have HB : Hid (q / 2 ^ 3 = (lo (Dg.wr (wo (wl b 5) (BitVec.ofNat 32 x)) 3)).toNat) := by
              show _ = _
              rw [HQ2.out]; exact keep_lo _ 3
            have hb256 : q / 2 ^ 3 < 256 := by rw [HB.out]; exact UInt8.toNat_lt _
            have hr256 : q % 2 ^ 3 < 256 := by have := Nat.mod_lt q (show 0 < 2 ^ 3 by decide); omega
            clear HN2
            go_wp2_with (at_builtin; refine wpList_append_own _ rfl _ _ 30 rfl w.heap.size 5 i5 (.int .u8 0) 1 1 Tryd.underlying30 hi5 hz5 hs5 hb5 rfl (by decide) _ _ _ rfl (hown.alloc _) ⟨wq.heap.size, 0, none⟩ 1 1 [_] rfl rfl (cell_one_new _ _ _) (by simp [Value.oneCell']) (by unfold maxLen; omega) (by omega) (by simp; omega) ?_; intro v' w5 hown' hgrow' _)
            have hb' := (hb.alloc hbz _).grown hgrow' (by simp; omega) (fun k e => (hown.lt k e).1)
            have hown2 := byte_own2 (b := lo (Dg.wr (wo (wl b 5) (BitVec.ofNat 32 x)) 3)) (by rw [← HB.out]; simp) hown'
            refine ⟨⟨i + 1, 3, k + 1, q % 2 ^ 3, _, _, by omega, by first | rfl | go_num, HR, by omega, by rfl, by omega, by omega, by go_num, hown2, HN3, hb'⟩, by simp [intOf]; omega⟩
          · subst e
            have HN3 := step_byte (r := 4) HN2
            have hand := and_mask q 4 15 (by omega) (by omega) (by decide)
            have HR : Hid (q % 2 ^ 4 = (wo (wl b 5) (BitVec.ofNat 32 x)).toNat % 2 ^ 4) := by
              show _ = _
              rw [HQ2.out]; exact keep_rest _ 4
            have HB : Hid (q / 2 ^ 4 = (lo (Dg.wr (wo (wl b 5) (BitVec.ofNat 32 x)) 4)).toNat) := by
              show _ = _
              rw [HQ2.out]; exact keep_lo _ 4
            have hb256 : q / 2 ^ 4 < 256 := by rw [HB.out]; exact UInt8.toNat_lt _
            have hr256 : q % 2 ^ 4 < 256 := by have := Nat.mod_lt q (show 0 < 2 ^ 4 by decide); omega
            clear HN2
            go_wp2_with (at_builtin; refine wpList_append_own _ rfl _ _ 30 rfl w.heap.size 5 i5 (.int .u8 0) 1 1 Tryd.underlying30 hi5 hz5 hs5 hb5 rfl (by decide) _ _ _ rfl (hown.alloc _) ⟨wq.heap.size, 0, none⟩ 1 1 [_] rfl rfl (cell_one_new _ _ _) (by simp [Value.oneCell']) (by unfold maxLen; omega) (by omega) (by simp; omega) ?_; intro v' w5 hown' hgrow' _)
            have hb' := (hb.alloc hbz _).grown hgrow' (by simp; omega) (fun k e => (hown.lt k e).1)
            have hown2 := byte_own2 (b := lo (Dg.wr (wo (wl b 5) (BitVec.ofNat 32 x)) 4)) (by rw [← HB.out]; simp) hown'
            refine ⟨⟨i + 1, 4, k + 1, q % 2 ^ 4, _, _, by omega, by first | rfl | go_num, HR, by omega, by rfl, by omega, by omega, by go_num, hown2, HN3, hb'⟩, by simp [intOf]; omega⟩
    · have hcv := own_str hown
      have hun : Hid (udec ⟨[], 0, 0⟩ s.data.toList = some l) := by
        show _ = _
        rw [HL.out, List.drop_of_length_le (by simpa using hlt)]
        rfl
      have hll : l.length = k := by have := hown.1; simpa [bc] using this
      have hls : (ByteArray.mk l.toArray).size ≤ 1000000 := by show l.toArray.size ≤ _; simp; omega
      have HLS := Lib.hid hls
      clear hls hll
      go_wp2_with fail
      refine (rbase_any _ _ HLS.out).mono ?_
      rintro e w3 ⟨rfl, hb3⟩
      have hb4 := hb.trans (hb3.mono hb.size)
      have hcv3 := own_str (own_below hown hb3)
      by_cases heq : b32L l = s.data.toList
      · have hq : (b32L l == s.toList) = true := by rw [Lib.toList_data, heq]; simp
        have HUN : Hid (unb32L s.data.toList = some l) := by
          show _ = _
          rw [unb32L, hun.out]
          exact if_pos heq
        clear heq
        go_wp2_with fail
        refine bodyPost_ret (v := maybe (some l)) (by simp [results, Tryd.f20, go_sem, maybe]) rfl ⟨by rw [HUN.out], hb4⟩
      · have hq : (b32L l == s.toList) = false := by rw [Lib.toList_data]; simpa using heq
        have HUN : Hid (unb32L s.data.toList = none) := by
          show _ = _
          rw [unb32L, hun.out]
          exact if_neg heq
        clear heq
        go_wp2_with fail
        refine bodyPost_ret (v := maybe none) (by simp [results, Tryd.f20, go_sem, maybe]) rfl ⟨by rw [HUN.out], hb4⟩
end Go.Proofs.YtejckicjfmhhoaaDoor

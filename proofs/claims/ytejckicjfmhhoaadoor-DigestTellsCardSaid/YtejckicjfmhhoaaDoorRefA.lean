/- What word, turn, digit, value and bit of the reference return. -/
import Derived.Test.YtejckicjfmhhoaaDoorF3
import Derived.Test.YtejckicjfmhhoaaDoorCodec
import Derived.Deep.QuietTactic
import Derived.BigQuiet
namespace Dg
/-- One bit of a string, the first one highest. -/
def bitN (l : List UInt8) (a : Nat) : Nat := (l.getD (a / 8) 0).toNat / 2 ^ (7 - a % 8) % 2
theorem bitN_out {l : List UInt8} {a : Nat} (h : 8 * l.length ≤ a) : bitN l a = 0 := by
  unfold bitN
  rw [List.getD_eq_getElem?_getD, List.getElem?_eq_none (by omega)]
  simp
end Dg
namespace Go.Proofs.YtejckicjfmhhoaaDoor
open Go.RowKit Dg

theorem bitsN (m n : Nat) (hm : m < 9223372036854775808) (hn : n < 9223372036854775808) :
    bits .xor .i64 (m : Int) (n : Int) = ((m ^^^ n : Nat) : Int) ∧ bits .and .i64 (m : Int) (n : Int) = ((m &&& n : Nat) : Int) ∧ bits .or .i64 (m : Int) (n : Int) = ((m ||| n : Nat) : Int) := by
  have hx : m ^^^ n < 2 ^ 63 := Nat.xor_lt_two_pow (by omega) (by omega)
  have ha : m &&& n < 2 ^ 63 := Nat.lt_of_le_of_lt Nat.and_le_left (by omega)
  have ho : m ||| n < 2 ^ 63 := Nat.or_lt_two_pow (by omega) (by omega)
  have em : (BitVec.ofInt 64 (m : Int)).toNat = m := by rw [BitVec.ofInt_natCast, BitVec.toNat_ofNat]; omega
  have en : (BitVec.ofInt 64 (n : Int)).toNat = n := by rw [BitVec.ofInt_natCast, BitVec.toNat_ofNat]; omega
  have hw : ∀ k : Nat, k < 2 ^ 63 → IntKind.i64.wrap (k : Int) = (k : Int) := by
    intro k hk
    unfold IntKind.wrap
    simp only [IntKind.bits, IntKind.signed, Bool.true_and]
    rw [if_neg (by simp; omega)]
    omega
  refine ⟨?_, ?_, ?_⟩
  · show IntKind.i64.wrap ((BitVec.ofInt 64 (m : Int) ^^^ BitVec.ofInt 64 (n : Int)).toNat : Int) = _
    rw [BitVec.toNat_xor, em, en]; exact hw _ hx
  · show IntKind.i64.wrap ((BitVec.ofInt 64 (m : Int) &&& BitVec.ofInt 64 (n : Int)).toNat : Int) = _
    rw [BitVec.toNat_and, em, en]; exact hw _ ha
  · show IntKind.i64.wrap ((BitVec.ofInt 64 (m : Int) ||| BitVec.ofInt 64 (n : Int)).toNat : Int) = _
    rw [BitVec.toNat_or, em, en]; exact hw _ ho
theorem l_x (a b : Word) : bits .xor .i64 (wn a) (wn b) = wn (wx a b) := by
  have ha := a.isLt; have hb := b.isLt
  rw [wn, wn, (bitsN _ _ (by omega) (by omega)).1, wn, wx, BitVec.toNat_xor]
theorem l_a (a b : Word) : bits .and .i64 (wn a) (wn b) = wn (wa a b) := by
  have ha := a.isLt; have hb := b.isLt
  rw [wn, wn, (bitsN _ _ (by omega) (by omega)).2.1, wn, wa, BitVec.toNat_and]
theorem l_o (a b : Word) : bits .or .i64 (wn a) (wn b) = wn (wo a b) := by
  have ha := a.isLt; have hb := b.isLt
  rw [wn, wn, (bitsN _ _ (by omega) (by omega)).2.2, wn, wo, BitVec.toNat_or]

theorem mask32 (x : Int) (h0 : 0 ≤ x) (h1 : x < 9223372036854775808) : bits .and .i64 x 4294967295 = x % 4294967296 := by
  obtain ⟨n, rfl⟩ := Int.eq_ofNat_of_zero_le h0
  show bits .and .i64 (n : Int) ((4294967295 : Nat) : Int) = _
  rw [(bitsN n 4294967295 (by omega) (by omega)).2.1, show (4294967295 : Nat) = 2 ^ 32 - 1 from rfl, Nat.and_two_pow_sub_one_eq_mod]
  omega

theorem word_any (x : Int) (b : Word) (w : World) (h0 : 0 ≤ x) (h1 : x < 4611686018427387904) (h : x % 4294967296 = wn b) :
    Calls Tryd.prog 40 #[.int .i64 x] w fun e w' => e = .returned (.int .i64 (wn b)) ∧ w' = w := by
  have hm := (mask32 x h0 (by omega)).trans h
  go_enter Tryd.func40, Tryd.ntmps40
  go_wp2
  exact bodyPost_ret (results_tmp rfl _ _ _) rfl ⟨rfl, rfl⟩

theorem turn_any (b : Word) (n : Int) (r : Nat) (w : World) (hn : n = (r : Int)) (h1 : 2 ≤ r) (h2 : r ≤ 30) :
    Calls Tryd.prog 39 #[.int .i64 (wn b), .int .i64 n] w fun e w' => e = .returned (.int .i64 (wn (ror b r))) ∧ ∃ m, w' = w.drewN m := by
  subst hn
  have hb0 := wn_nonneg b
  have hb1 := wn_lt b
  obtain ⟨k, hk, hk1, HK⟩ : ∃ k : Nat, 32 - (r : Int) = (k : Int) ∧ k ≤ 30 ∧ Hid (k = 32 - r) := ⟨32 - r, by omega, by omega, rfl⟩
  have hw1 : IntKind.i64.wrap (32 - (r : Int)) = (k : Int) := by rw [hk]; exact wrap_i64 (by omega) (by omega)
  have hp0 : (0 : Int) < 2 ^ k := Int.pow_pos (by omega)
  have hp1 : (2 : Int) ^ k ≤ 2 ^ 30 := by exact_mod_cast Nat.pow_le_pow_right (by omega) hk1
  have hm0 : 0 ≤ wn b * 2 ^ k := Int.mul_nonneg hb0 (by omega)
  have hm1 : wn b * 2 ^ k < 4611686018427387904 := by
    have h3 : wn b * 2 ^ k ≤ wn b * 2 ^ 30 := Int.mul_le_mul_of_nonneg_left hp1 hb0
    omega
  have hw2 : IntKind.i64.wrap (wn b * 2 ^ k) = wn b * 2 ^ k := wrap_i64 (by omega) hm1
  have hcall := fun W => word_any (wn b * 2 ^ k) (wl b k) W hm0 hm1 (shl_w b k _ rfl)
  have hor : bits .or .i64 (wn b / 2 ^ r) (wn (wl b k)) = wn (ror b r) := by
    rw [shr_w b r _ rfl, l_o, HK.out]
    unfold ror wo
    rw [BitVec.or_comm]
  have HC := Lib.hid hcall
  clear hcall hp0 hp1 hb0 hb1 hm0 hm1 hk
  go_enter Tryd.func39, Tryd.ntmps39
  go_wp2
  go_quiet ((go_at_call 40; exact Calls.quiet_of_same (HC.out _)))
  go_wp2
  exact bodyPost_ret (results_tmp rfl _ _ _) rfl ⟨rfl, _, rfl⟩

theorem digit_any (n : Nat) (x : Int) (w : World) (hx : x = (n : Int)) (h : n < 16) :
    Calls Tryd.prog 34 #[.int .i64 x] w fun e w' => e = .returned (.int .u8 ((hexd n).toNat : Int)) ∧ w' = w := by
  subst hx
  have hv : ∀ d : Fin 16, (((hexd d.val).toNat : Nat) : Int) = if d.val < 10 then 48 + (d.val : Int) else 97 + (d.val : Int) - 10 := by decide
  replace hv := hv ⟨n, h⟩
  have HV := Lib.hid hv
  clear hv
  by_cases h10 : n < 10
  · go_enter Tryd.func34, Tryd.ntmps34
    go_wp2
    refine bodyPost_ret (results_tmp rfl _ _ _) rfl ⟨?_, rfl⟩
    rw [HV.out, if_pos h10]
    rfl
  · go_enter Tryd.func34, Tryd.ntmps34
    go_wp2
    refine bodyPost_ret (results_tmp rfl _ _ _) rfl ⟨?_, rfl⟩
    rw [HV.out, if_neg h10]
    rfl

theorem value_any (c : UInt8) (w : World) :
    Calls Tryd.prog 32 #[.int .u8 (c.toNat : Int)] w fun e w' => e = .returned (.int .i64 (ixI (place hexT c))) ∧ w' = w := by
  have hv : ∀ d : Fin 256, ixI (place hexT (UInt8.ofNat d.val)) = if 48 ≤ d.val ∧ d.val ≤ 57 then (d.val : Int) - 48 else if 97 ≤ d.val ∧ d.val ≤ 102 then (d.val : Int) - 97 + 10 else -1 := by decide +kernel
  replace hv := hv ⟨c.toNat, c.toNat_lt⟩
  simp only [UInt8.ofNat_toNat] at hv
  have HV := Lib.hid hv
  clear hv
  have hc : c.toNat < 256 := c.toNat_lt
  rcases (show ((c.toNat : Int) < 48) ∨ (48 ≤ (c.toNat : Int) ∧ (c.toNat : Int) ≤ 57) ∨ (57 < (c.toNat : Int) ∧ (c.toNat : Int) < 97) ∨ (97 ≤ (c.toNat : Int) ∧ (c.toNat : Int) ≤ 102) ∨ 102 < (c.toNat : Int) by omega) with h | ⟨h, h'⟩ | ⟨h, h'⟩ | ⟨h, h'⟩ | h
  · have HW : Hid (ixI (place hexT c) = -1) := HV.out.trans (by rw [if_neg (by omega), if_neg (by omega)])
    go_enter Tryd.func32, Tryd.ntmps32
    go_wp2
    exact bodyPost_ret (results_tmp rfl _ _ _) rfl ⟨by rw [HW.out]; rfl, rfl⟩
  · have HW : Hid (ixI (place hexT c) = (c.toNat : Int) - 48) := HV.out.trans (by rw [if_pos (by omega)])
    go_enter Tryd.func32, Tryd.ntmps32
    go_wp2
    exact bodyPost_ret (results_tmp rfl _ _ _) rfl ⟨by rw [HW.out]; rfl, rfl⟩
  · have HW : Hid (ixI (place hexT c) = -1) := HV.out.trans (by rw [if_neg (by omega), if_neg (by omega)])
    go_enter Tryd.func32, Tryd.ntmps32
    go_wp2
    exact bodyPost_ret (results_tmp rfl _ _ _) rfl ⟨by rw [HW.out]; rfl, rfl⟩
  · have HW : Hid (ixI (place hexT c) = (c.toNat : Int) - 97 + 10) := HV.out.trans (by rw [if_neg (by omega), if_pos (by omega)])
    go_enter Tryd.func32, Tryd.ntmps32
    go_wp2
    exact bodyPost_ret (results_tmp rfl _ _ _) rfl ⟨by rw [HW.out]; rfl, rfl⟩
  · have HW : Hid (ixI (place hexT c) = -1) := HV.out.trans (by rw [if_neg (by omega), if_neg (by omega)])
    go_enter Tryd.func32, Tryd.ntmps32
    go_wp2
    exact bodyPost_ret (results_tmp rfl _ _ _) rfl ⟨by rw [HW.out]; rfl, rfl⟩

theorem and_one (m : Nat) (h : m < 9223372036854775808) : bits .and .i64 (m : Int) 1 = ((m % 2 : Nat) : Int) := by
  show bits .and .i64 (m : Int) ((1 : Nat) : Int) = _
  rw [(bitsN m 1 h (by omega)).2.1, Nat.and_one_is_mod]

theorem bit_any (s : ByteArray) (a : Nat) (x : Int) (w : World) (hx : x = (a : Int)) (hs : s.size ≤ 1000000) :
    Calls Tryd.prog 35 #[.string s, .int .i64 x] w fun e w' => e = .returned (.int .i64 (bitN s.data.toList a : Int)) ∧ w' = w := by
  subst hx
  by_cases hlt : a < 8 * s.size
  · obtain ⟨q, HQ, hq, hqs⟩ : ∃ q : Nat, Hid (a / 8 = q) ∧ (a : Int) / 8 = (q : Int) ∧ q < s.size := ⟨a / 8, rfl, by omega, by omega⟩
    obtain ⟨r, HR, hr, hr7⟩ : ∃ r : Nat, Hid (7 - a % 8 = r) ∧ 7 - (a : Int) % 8 = (r : Int) ∧ r ≤ 7 := ⟨7 - a % 8, rfl, by omega, by omega⟩
    have hq8 : s[q].toNat < 256 := s[q].toNat_lt
    have HB : Hid (bitN s.data.toList a = s[q].toNat / 2 ^ r % 2) := by
      show _ = _
      unfold bitN
      rw [HQ.out, HR.out]
      congr 3
      rw [List.getD_eq_getElem?_getD, List.getElem?_eq_getElem (show q < s.data.toList.length from hqs)]
      rfl
    go_enter Tryd.func35, Tryd.ntmps35
    go_wp2
    refine bodyPost_ret (results_tmp rfl _ _ _) rfl ⟨?_, rfl⟩
    rw [HB.out, show (s[q].toNat : Int) / 2 ^ r = ((s[q].toNat / 2 ^ r : Nat) : Int) by simp, and_one _ (Nat.lt_of_le_of_lt (Nat.div_le_self _ _) (by omega))]
    rfl
  · have h0 : Hid (bitN s.data.toList a = 0) := bitN_out (by show 8 * s.size ≤ a; omega)
    go_enter Tryd.func35, Tryd.ntmps35
    go_wp2
    exact bodyPost_ret (results_tmp rfl _ _ _) rfl ⟨by rw [h0.out]; rfl, rfl⟩
end Go.Proofs.YtejckicjfmhhoaaDoor

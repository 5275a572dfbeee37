/- What Short returns. -/
import Derived.Test.YtejckicjfmhhoaaDoorFlip
namespace Dg
/-- Bytes, the first one highest, as a number. -/
def acc (l : List UInt8) : Nat := l.foldl (fun n c => n * 256 + c.toNat) 0
theorem acc_snoc (l : List UInt8) (c : UInt8) : acc (l ++ [c]) = acc l * 256 + c.toNat := by simp [acc]
theorem acc_lt (l : List UInt8) : acc l < 256 ^ l.length := by
  have h : ∀ (l : List UInt8) (n : Nat), l.foldl (fun n c => n * 256 + c.toNat) n < (n + 1) * 256 ^ l.length := by
    intro l
    induction l with
    | nil => intro n; simp
    | cons c l ih =>
      intro n
      rw [List.foldl_cons, List.length_cons, Nat.pow_succ, Nat.mul_comm (256 ^ l.length) 256, ← Nat.mul_assoc]
      refine Nat.lt_of_lt_of_le (ih _) (Nat.mul_le_mul_right _ ?_)
      have := c.toNat_lt
      omega
  simpa [acc] using h l 0
theorem acc_take {l : List UInt8} {k : Nat} (h : k < l.length) : acc (l.take (k + 1)) = acc (l.take k) * 256 + (l.getD k 0).toNat := by
  rw [List.take_succ_eq_append_getElem h, acc_snoc]
  congr 2
  simp [List.getD_eq_getElem?_getD, h]
theorem acc_take_lt {l : List UInt8} {k m : Nat} (h : k ≤ m) : acc (l.take k) < 256 ^ m :=
  Nat.lt_of_lt_of_le (acc_lt _) (Nat.pow_le_pow_right (by omega) (by rw [List.length_take]; omega))
end Dg
namespace Go.Proofs.YtejckicjfmhhoaaDoor
open Go.RowKit Dg

theorem or_low (a b : Nat) (h : a < 2 ^ 56) (hb : b < 256) : bits .or .u64 ((a : Int) * 256) (b : Int) = ((a * 256 + b : Nat) : Int) := by
  have e : a * 256 ||| b = a * 256 + b := by
    have := Nat.two_pow_add_eq_or_of_lt (i := 8) (b := b) hb a
    rw [show a * 256 = 2 ^ 8 * a by omega, ← this]
  show IntKind.u64.wrap ((BitVec.ofInt 64 ((a : Int) * 256) ||| BitVec.ofInt 64 (b : Int)).toNat : Int) = _
  rw [show ((a : Int) * 256) = ((a * 256 : Nat) : Int) by omega, BitVec.ofInt_natCast, BitVec.ofInt_natCast, BitVec.toNat_or, BitVec.toNat_ofNat, BitVec.toNat_ofNat, Nat.mod_eq_of_lt (by omega), Nat.mod_eq_of_lt (by omega), e]
  unfold IntKind.wrap
  simp only [IntKind.bits, IntKind.signed, Bool.false_and, Bool.false_eq_true, if_false]
  omega

theorem wrap_c (c : UInt8) : IntKind.u64.wrap (c.toNat : Int) = (c.toNat : Int) := by
  have := c.toNat_lt
  unfold IntKind.wrap
  simp only [IntKind.bits, IntKind.signed, Bool.false_and, Bool.false_eq_true, if_false]
  omega

set_option maxRecDepth 100000 in
theorem short_any (s : ByteArray) (w : World) (hs : s.size ≤ 1000000) (hK : KT w) (hpos : 0 < w.heap.size) :
    Calls Tryd.prog 22 #[.string s] w fun e w' => e = .returned (.int .i64 ((acc ((sumL s.data.toList).take 8) / 16 : Nat) : Int)) ∧ Below w.heap.size w w' := by
  obtain ⟨L, HL, hL⟩ : ∃ L, Hid (sumL s.data.toList = L) ∧ L.length = 32 := ⟨_, rfl, sumL_length _⟩
  go_enter Tryd.func22, Tryd.ntmps22
  go_wp2_with fail
  refine (sum_any s w hs hK hpos).mono ?_
  rintro e w1 ⟨rfl, hb1⟩
  rw [HL.out]
  have hsz : ((⟨L.toArray⟩ : ByteArray).extract 0 8).size = 8 := by rw [extract_size _ _ _ (by rw [mk_size]; omega)]
  have hl8 : (L.take 8).length = 8 := by simp; omega
  have hx : ((⟨L.toArray⟩ : ByteArray).extract 0 8).data.toList = L.take 8 := by rw [Lib.extract_data]; rfl
  obtain ⟨W, cap, hB0, hb0, hcv⟩ := to_bytes ((⟨L.toArray⟩ : ByteArray).extract 0 8) w1
  rw [hsz] at hcv
  rw [hx] at hB0
  have hms : 8 ≤ (ByteArray.mk L.toArray).size := by rw [mk_size]; omega
  clear hsz hx
  go_wp2_with fail
  go_loop [3, 11] (fun v i => ∃ (k n : Nat), k ≤ 8 ∧ i = .int .i64 (k : Int) ∧ v = .int .u64 (n : Int) ∧ Hid (n = acc (L.take k)))
    (fun _ i => (8 - intOf i).toNat)
  case atStart => exact ⟨0, 0, by omega, rfl, rfl, by rfl⟩
  case round =>
    obtain ⟨k, n, hk, rfl, rfl, HN⟩ := hrel
    by_cases hlt : k < 8
    · have hc := hB0.cell (i := k) (by omega)
      have hf := hB0.frozen (i := k) (by omega)
      have hn : n < 2 ^ 56 := by rw [HN.out]; exact acc_take_lt (m := 7) (by omega)
      have hx : (L.take 8).getD k 0 = L.getD k 0 := by simp [List.getD_eq_getElem?_getD, hlt]
      rw [hx] at hc
      have HN2 : Hid (n * 256 + (L.getD k 0).toNat = acc (L.take (k + 1))) := by
        show _ = _
        rw [acc_take (by omega), ← HN.out]
      have hor := or_low n (L.getD k 0).toNat hn (L.getD k 0).toNat_lt
      generalize L.getD k 0 = c at *
      clear hx
      go_wp2_with fail
      go_round
      case rel => exact ⟨k + 1, n * 256 + c.toNat, by omega, by go_num, by rw [wrap_c, hor], HN2⟩
      case measure => simp [intOf]; omega
    · have hk8 : k = 8 := by omega
      subst hk8
      have hn : n < 2 ^ 64 := by rw [HN.out]; exact acc_take_lt (m := 8) (by omega)
      go_wp2_with fail
      refine bodyPost_ret (results_tmp rfl _ _ _) rfl ⟨?_, hb1.trans (hb0.mono hb1.size)⟩
      rw [HL.out, ← HN.out]
      rfl

theorem short_eq (s : ByteArray) (L : List UInt8) (w : World) (hs : s.size ≤ 1000000) (hG : Good w) (HL : Hid (sumL s.data.toList = L)) :
    Calls Tryd.prog 22 #[.string s] w fun e w' => ∃ m : Nat, Hid (m = acc (L.take 8) / 16) ∧ m < 1152921504606846976 ∧ e = .returned (.int .i64 (m : Int)) ∧ Below w.heap.size w w' :=
  (short_any s w hs hG.1 hG.2).mono fun _ _ ⟨h1, h2⟩ => ⟨_, Lib.hid rfl, by have := acc_take_lt (l := L) (k := 8) (m := 8) (by omega); omega, by rw [h1, HL.out], h2⟩

set_option maxRecDepth 100000 in
theorem shorts_all (s : ByteArray) (w : World) (hG : Good w) : Calls Tryd.prog 9 #[.string s] w fun e w' => e = .returned (.bool true) ∧ Below w.heap.size w w' := by
  by_cases h1 : 2000 < s.size
  · go_enter Tryd.func9, Tryd.ntmps9
    go_wp2_with fail
    refine (small_any w hG.1 hG.2).mono ?_
    rintro e w1 ⟨rfl, hb1⟩
    go_wp2_with fail
    refine bodyPost_ret (results_tmp rfl _ _ _) rfl ⟨rfl, hb1⟩
  · obtain ⟨L, HL, hL⟩ : ∃ L, Hid (sumL s.data.toList = L) ∧ L.length = 32 := ⟨_, rfl, sumL_length _⟩
    go_enter Tryd.func9, Tryd.ntmps9
    go_wp2_with fail
    refine (small_any w hG.1 hG.2).mono ?_
    rintro e w1 ⟨rfl, hb1⟩
    have hG1 := hG.next hb1
    go_wp2_with fail
    refine (sum_any s w1 (by omega) hG1.1 hG1.2).mono ?_
    rintro e w2 ⟨rfl, hb2⟩
    rw [HL.out]
    have hG2 := hG1.next hb2
    replace hb2 := hb1.trans (hb2.mono hb1.size)
    have hms : (ByteArray.mk L.toArray).size = 32 := by rw [mk_size, hL]
    go_wp2_with fail
    refine (short_eq s L w2 (by omega) hG2 HL).mono ?_
    rintro e w3 ⟨m, HM, hm, rfl, hb3⟩
    replace hb3 := hb2.trans (hb3.mono hb2.size)
    go_wp2_with fail
    go_loop [5, 6] (fun v i => ∃ (k n : Nat), k ≤ 8 ∧ i = .int .i64 ((k : Int) - 1) ∧ v = .int .i64 (n : Int) ∧ n < 1152921504606846976 ∧ Hid (n = if k = 8 then acc (L.take 8) / 16 else acc (L.take k)))
      (fun _ i => (intOf i + 1).toNat)
    case atStart => exact ⟨8, m, by omega, rfl, rfl, hm, HM⟩
    case round =>
      obtain ⟨k, n, hk, hi, rfl, hn, HN⟩ := hrel
      rcases k with _ | j
      · obtain rfl : _ = Value.int .i64 (-1) := hi
        have hn0 : n = 0 := HN.out
        subst hn0
        go_wp2_with fail
        exact bodyPost_ret (results_tmp rfl _ _ _) rfl ⟨rfl, hb3⟩
      · obtain rfl : _ = Value.int .i64 (j : Int) := hi.trans (by rw [show (((j + 1 : Nat) : Int) - 1) = (j : Int) by omega])
        clear hi
        have hj : j < 8 := by omega
        have hjL : j < (ByteArray.mk L.toArray).size := by omega
        have hc : L.getD j 0 = (ByteArray.mk L.toArray)[j] := by
          rw [List.getD_eq_getElem?_getD, List.getElem?_eq_getElem (by omega)]; rfl
        have HC := Lib.hid hc
        clear hc
        by_cases h7 : j = 7
        · subst h7
          have hA : acc (L.take 8) = acc (L.take 7) * 256 + (ByteArray.mk L.toArray)[7].toNat := by rw [acc_take (by omega), HC.out]
          have hN : n = acc (L.take 8) / 16 := HN.out
          have hlt : (ByteArray.mk L.toArray)[7].toNat < 256 := ((ByteArray.mk L.toArray)[7]).toNat_lt
          have hN2 : n / 16 = acc (L.take 7) := by rw [hN, hA]; omega
          have hN3 : n % 16 = (ByteArray.mk L.toArray)[7].toNat / 16 := by rw [hN, hA]; omega
          have hB : (((n : Int) % 16) != (((ByteArray.mk L.toArray)[7].toNat : Int) / 16)) = false := by simp; omega
          have HN2 : Hid (n / 16 = if 7 = 8 then acc (L.take 8) / 16 else acc (L.take 7)) := hN2
          clear hA hN hN2 hN3
          go_wp2_with fail
          exact ⟨⟨7, n / 16, by omega, by go_num, by go_num, by omega, HN2⟩, by simp [intOf]⟩
        · have hA : acc (L.take (j + 1)) = acc (L.take j) * 256 + (ByteArray.mk L.toArray)[j].toNat := by rw [acc_take (by omega), HC.out]
          have hN : n = acc (L.take (j + 1)) := HN.out.trans (if_neg (by omega))
          have hlt : (ByteArray.mk L.toArray)[j].toNat < 256 := ((ByteArray.mk L.toArray)[j]).toNat_lt
          have hN2 : n / 256 = acc (L.take j) := by rw [hN, hA]; omega
          have hB : (((n : Int) % 256) != ((ByteArray.mk L.toArray)[j].toNat : Int)) = false := by simp; omega
          have h7b : ((j : Int) == 7) = false := by simp; omega
          have HN2 : Hid (n / 256 = if j = 8 then acc (L.take 8) / 16 else acc (L.take j)) := hN2.trans (if_neg (by omega)).symm
          clear hA hN hN2
          go_wp2_with fail
          exact ⟨⟨j, n / 256, by omega, rfl, by go_num, by omega, HN2⟩, by simp [intOf]⟩
end Go.Proofs.YtejckicjfmhhoaaDoor

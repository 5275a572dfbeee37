/- DigestTells returns true. -/
import Derived.Test.YtejckicjfmhhoaaDoorRefG
namespace Go.Proofs.YtejckicjfmhhoaaDoor
open Go.RowKit Dg

theorem t12 (s : ByteArray) (X : ByteArray) (b : Bool) (w : World) (hs : s.size ≤ 1000000) (h : Hid (maybe (unhexL s.data.toList) = .tuple #[.string X, .bool b])) :
    Calls Tryd.prog 12 #[.string s] w fun e w' => e = .returned (.tuple #[.string X, .bool b]) ∧ Below w.heap.size w w' := (unhex_any s w hs).mono fun _ _ ⟨h1, h2⟩ => ⟨by rw [h1, h.out], h2⟩
theorem t19 (s : ByteArray) (X : ByteArray) (b : Bool) (w : World) (hs : s.size ≤ 1000000) (h : Hid (maybe (unhexL s.data.toList) = .tuple #[.string X, .bool b])) :
    Calls Tryd.prog 19 #[.string s] w fun e w' => e = .returned (.tuple #[.string X, .bool b]) ∧ Below w.heap.size w w' := (runhex_any s w hs).mono fun _ _ ⟨h1, h2⟩ => ⟨by rw [h1, h.out], h2⟩
theorem t14 (s : ByteArray) (X : ByteArray) (b : Bool) (w : World) (hs : s.size ≤ 1000000) (h : Hid (maybe (unb32L s.data.toList) = .tuple #[.string X, .bool b])) :
    Calls Tryd.prog 14 #[.string s] w fun e w' => e = .returned (.tuple #[.string X, .bool b]) ∧ Below w.heap.size w w' := (unb_any s w hs).mono fun _ _ ⟨h1, h2⟩ => ⟨by rw [h1, h.out], h2⟩
theorem t20 (s : ByteArray) (X : ByteArray) (b : Bool) (w : World) (hs : s.size ≤ 1000000) (h : Hid (maybe (unb32L s.data.toList) = .tuple #[.string X, .bool b])) :
    Calls Tryd.prog 20 #[.string s] w fun e w' => e = .returned (.tuple #[.string X, .bool b]) ∧ Below w.heap.size w w' := (runb_any s w hs).mono fun _ _ ⟨h1, h2⟩ => ⟨by rw [h1, h.out], h2⟩
theorem t18 (s : ByteArray) (X : ByteArray) (w : World) (hs : s.size ≤ 1000000) (hG : Good w) (h : Hid ((⟨(sumL s.data.toList).toArray⟩ : ByteArray) = X)) :
    Calls Tryd.prog 18 #[.string s] w fun e w' => e = .returned (.string X) ∧ Below w.heap.size w w' := (sum_any s w hs hG.1 hG.2).mono fun _ _ ⟨h1, h2⟩ => ⟨by rw [h1, h.out], h2⟩
theorem t21 (s : ByteArray) (X : ByteArray) (w : World) (hs : s.size ≤ 1000000) (h : Hid ((⟨(sumL s.data.toList).toArray⟩ : ByteArray) = X)) :
    Calls Tryd.prog 21 #[.string s] w fun e w' => e = .returned (.string X) ∧ Below w.heap.size w w' := (rsum_any s w hs).mono fun _ _ ⟨h1, h2⟩ => ⟨by rw [h1, h.out], h2⟩
theorem t22 (s : ByteArray) (n : Int) (w : World) (hs : s.size ≤ 1000000) (hG : Good w) (h : Hid (((acc ((sumL s.data.toList).take 8) / 16 : Nat) : Int) = n)) :
    Calls Tryd.prog 22 #[.string s] w fun e w' => e = .returned (.int .i64 n) ∧ Below w.heap.size w w' := (short_any s w hs hG.1 hG.2).mono fun _ _ ⟨h1, h2⟩ => ⟨by rw [h1, h.out], h2⟩
theorem t23 (s : ByteArray) (n : Int) (w : World) (hs : s.size ≤ 1000000) (h : Hid (((acc ((sumL s.data.toList).take 8) / 16 : Nat) : Int) = n)) :
    Calls Tryd.prog 23 #[.string s] w fun e w' => e = .returned (.int .i64 n) ∧ Below w.heap.size w w' := (rshort_any s w hs).mono fun _ _ ⟨h1, h2⟩ => ⟨by rw [h1, h.out], h2⟩
theorem t16 (s : ByteArray) (n : Int) (w : World) (hs : s.size ≤ 1000000) (h : Hid (wn (crc s.data.toList) = n)) :
    Calls Tryd.prog 16 #[.string s] w fun e w' => e = .returned (.int .i64 n) ∧ Below w.heap.size w w' := (crc_any s w hs).mono fun _ _ ⟨h1, h2⟩ => ⟨by rw [h1, h.out], by rw [h2]; exact Below.refl _ _⟩
theorem t24 (s : ByteArray) (n : Int) (w : World) (hs : s.size ≤ 1000000) (h : Hid (wn (crc s.data.toList) = n)) :
    Calls Tryd.prog 24 #[.string s] w fun e w' => e = .returned (.int .i64 n) ∧ Below w.heap.size w w' := (rcrc_any s w hs).mono fun _ _ ⟨h1, h2⟩ => ⟨by rw [h1, h.out], by rw [h2]; exact Below.refl _ _⟩
theorem t11 (s : ByteArray) (X : ByteArray) (w : World) (hs : s.size ≤ 1000000) (h : Hid ((⟨(hexL s.data.toList).toArray⟩ : ByteArray) = X)) :
    Calls Tryd.prog 11 #[.string s] w fun e w' => e = .returned (.string X) ∧ Below w.heap.size w w' := (hex_any s w hs).mono fun _ _ ⟨h1, h2⟩ => ⟨by rw [h1, h.out], h2⟩
theorem t25 (s : ByteArray) (X : ByteArray) (w : World) (hs : s.size ≤ 1000000) (h : Hid ((⟨(hexL s.data.toList).toArray⟩ : ByteArray) = X)) :
    Calls Tryd.prog 25 #[.string s] w fun e w' => e = .returned (.string X) ∧ Below w.heap.size w w' := (rhex_any s w hs).mono fun _ _ ⟨h1, h2⟩ => ⟨by rw [h1, h.out], h2⟩
theorem t13 (s : ByteArray) (X : ByteArray) (w : World) (hs : s.size ≤ 1000000) (h : Hid ((⟨(b32L s.data.toList).toArray⟩ : ByteArray) = X)) :
    Calls Tryd.prog 13 #[.string s] w fun e w' => e = .returned (.string X) ∧ Below w.heap.size w w' := (base_any s w hs).mono fun _ _ ⟨h1, h2⟩ => ⟨by rw [h1, h.out], h2⟩
theorem t26 (s : ByteArray) (X : ByteArray) (w : World) (hs : s.size ≤ 1000000) (h : Hid ((⟨(b32L s.data.toList).toArray⟩ : ByteArray) = X)) :
    Calls Tryd.prog 26 #[.string s] w fun e w' => e = .returned (.string X) ∧ Below w.heap.size w w' := (rbase_any s w hs).mono fun _ _ ⟨h1, h2⟩ => ⟨by rw [h1, h.out], h2⟩
theorem t17 (k s : ByteArray) (X : ByteArray) (w : World) (hk : k.size ≤ 1000000) (hs : s.size ≤ 900000) (hG : Good w) (h : Hid ((⟨(macL k.data.toList s.data.toList).toArray⟩ : ByteArray) = X)) :
    Calls Tryd.prog 17 #[.string k, .string s] w fun e w' => e = .returned (.string X) ∧ Below w.heap.size w w' := (mac_any k s w hk hs hG.1 hG.2).mono fun _ _ ⟨h1, h2⟩ => ⟨by rw [h1, h.out], h2⟩
theorem t27 (k s : ByteArray) (X : ByteArray) (w : World) (hk : k.size ≤ 1000000) (hs : s.size ≤ 900000) (h : Hid ((⟨(macL k.data.toList s.data.toList).toArray⟩ : ByteArray) = X)) :
    Calls Tryd.prog 27 #[.string k, .string s] w fun e w' => e = .returned (.string X) ∧ Below w.heap.size w w' := (rmac_any k s w hk hs).mono fun _ _ ⟨h1, h2⟩ => ⟨by rw [h1, h.out], h2⟩

set_option maxRecDepth 100000 in
theorem tells_big (s h : ByteArray) (w : World) (hG : Good w) (hbig : 2000 < s.size ∨ 2000 < h.size) : Calls Tryd.prog 8 #[.string s, .string h] w fun e w' => e = .returned (.bool true) ∧ Below w.heap.size w w' := by
  go_enter Tryd.func8, Tryd.ntmps8
  go_wp2_with fail
  refine (small_any w hG.1 hG.2).mono ?_
  rintro e w1 ⟨rfl, hb1⟩
  by_cases h1 : 2000 < s.size
  · go_wp2_with fail
    refine bodyPost_ret (results_tmp rfl _ _ _) rfl ⟨rfl, hb1⟩
  · have h2 : 2000 < h.size := by omega
    go_wp2_with fail
    refine bodyPost_ret (results_tmp rfl _ _ _) rfl ⟨rfl, hb1⟩

set_option maxRecDepth 100000 in
set_option maxHeartbeats 2000000 in
theorem tells_any (s h : ByteArray) (w : World) (hG : Good w) (h1 : s.size ≤ 2000) (h2 : h.size ≤ 2000) : Calls Tryd.prog 8 #[.string s, .string h] w fun e w' => e = .returned (.bool true) ∧ Below w.heap.size w w' := by
  obtain ⟨X1, b1, E1⟩ : ∃ X b, Hid (maybe (unhexL h.data.toList) = .tuple #[.string X, .bool b]) := ⟨_, _, rfl⟩
  obtain ⟨X2, b2, E2⟩ : ∃ X b, Hid (maybe (unb32L h.data.toList) = .tuple #[.string X, .bool b]) := ⟨_, _, rfl⟩
  obtain ⟨X3, E3⟩ : ∃ X, Hid ((⟨(sumL s.data.toList).toArray⟩ : ByteArray) = X) := ⟨_, rfl⟩
  obtain ⟨n4, E4⟩ : ∃ n, Hid (((acc ((sumL s.data.toList).take 8) / 16 : Nat) : Int) = n) := ⟨_, rfl⟩
  obtain ⟨n5, E5⟩ : ∃ n, Hid (wn (crc s.data.toList) = n) := ⟨_, rfl⟩
  obtain ⟨X6, E6⟩ : ∃ X, Hid ((⟨(hexL s.data.toList).toArray⟩ : ByteArray) = X) := ⟨_, rfl⟩
  obtain ⟨X7, E7⟩ : ∃ X, Hid ((⟨(b32L s.data.toList).toArray⟩ : ByteArray) = X) := ⟨_, rfl⟩
  obtain ⟨X8, E8⟩ : ∃ X, Hid ((⟨(macL h.data.toList s.data.toList).toArray⟩ : ByteArray) = X) := ⟨_, rfl⟩
  go_enter Tryd.func8, Tryd.ntmps8
  go_wp2_with fail
  refine (small_any w hG.1 hG.2).mono ?_
  rintro e w1 ⟨rfl, hb1⟩
  go_wp2_with fail
  refine (t12 h X1 b1 _ (by omega) E1).mono ?_
  rintro e w2 ⟨rfl, hb2⟩
  replace hb2 := hb1.trans (hb2.mono hb1.size)
  clear hb1
  go_wp2_with fail
  refine (t19 h X1 b1 _ (by omega) E1).mono ?_
  rintro e w3 ⟨rfl, hb3⟩
  replace hb3 := hb2.trans (hb3.mono hb2.size)
  clear hb2
  go_wp2_with fail
  refine (t14 h X2 b2 _ (by omega) E2).mono ?_
  rintro e w4 ⟨rfl, hb4⟩
  replace hb4 := hb3.trans (hb4.mono hb3.size)
  clear hb3
  go_wp2_with fail
  refine (t20 h X2 b2 _ (by omega) E2).mono ?_
  rintro e w5 ⟨rfl, hb5⟩
  replace hb5 := hb4.trans (hb5.mono hb4.size)
  clear hb4
  go_wp2_with fail
  refine (t18 s X3 _ (by omega) (hG.next hb5) E3).mono ?_
  rintro e w6 ⟨rfl, hb6⟩
  replace hb6 := hb5.trans (hb6.mono hb5.size)
  clear hb5
  go_wp2_with fail
  refine (t21 s X3 _ (by omega) E3).mono ?_
  rintro e w7 ⟨rfl, hb7⟩
  replace hb7 := hb6.trans (hb7.mono hb6.size)
  clear hb6
  go_wp2_with fail
  refine (t22 s n4 _ (by omega) (hG.next hb7) E4).mono ?_
  rintro e w8 ⟨rfl, hb8⟩
  replace hb8 := hb7.trans (hb8.mono hb7.size)
  clear hb7
  go_wp2_with fail
  refine (t23 s n4 _ (by omega) E4).mono ?_
  rintro e w9 ⟨rfl, hb9⟩
  replace hb9 := hb8.trans (hb9.mono hb8.size)
  clear hb8
  go_wp2_with fail
  refine (t16 s n5 _ (by omega) E5).mono ?_
  rintro e w10 ⟨rfl, hb10⟩
  replace hb10 := hb9.trans (hb10.mono hb9.size)
  clear hb9
  go_wp2_with fail
  refine (t24 s n5 _ (by omega) E5).mono ?_
  rintro e w11 ⟨rfl, hb11⟩
  replace hb11 := hb10.trans (hb11.mono hb10.size)
  clear hb10
  go_wp2_with fail
  refine (t11 s X6 _ (by omega) E6).mono ?_
  rintro e w12 ⟨rfl, hb12⟩
  replace hb12 := hb11.trans (hb12.mono hb11.size)
  clear hb11
  go_wp2_with fail
  refine (t25 s X6 _ (by omega) E6).mono ?_
  rintro e w13 ⟨rfl, hb13⟩
  replace hb13 := hb12.trans (hb13.mono hb12.size)
  clear hb12
  go_wp2_with fail
  refine (t13 s X7 _ (by omega) E7).mono ?_
  rintro e w14 ⟨rfl, hb14⟩
  replace hb14 := hb13.trans (hb14.mono hb13.size)
  clear hb13
  go_wp2_with fail
  refine (t26 s X7 _ (by omega) E7).mono ?_
  rintro e w15 ⟨rfl, hb15⟩
  replace hb15 := hb14.trans (hb15.mono hb14.size)
  clear hb14
  go_wp2_with fail
  refine (t17 h s X8 _ (by omega) (by omega) (hG.next hb15) E8).mono ?_
  rintro e w16 ⟨rfl, hb16⟩
  replace hb16 := hb15.trans (hb16.mono hb15.size)
  clear hb15
  go_wp2_with fail
  refine (t27 h s X8 _ (by omega) (by omega) E8).mono ?_
  rintro e w17 ⟨rfl, hb17⟩
  replace hb17 := hb16.trans (hb17.mono hb16.size)
  clear hb16
  go_wp2_with fail
  exact bodyPost_ret (results_tmp rfl _ _ _) rfl ⟨rfl, hb17⟩

theorem tells_all (s h : ByteArray) (w : World) (hG : Good w) : Calls Tryd.prog 8 #[.string s, .string h] w fun e w' => e = .returned (.bool true) ∧ Below w.heap.size w w' := by
  by_cases h1 : 2000 < s.size
  · exact tells_big s h w hG (.inl h1)
  · by_cases h2 : 2000 < h.size
    · exact tells_big s h w hG (.inr h2)
    · exact tells_any s h w hG (by omega) (by omega)
end Go.Proofs.YtejckicjfmhhoaaDoor

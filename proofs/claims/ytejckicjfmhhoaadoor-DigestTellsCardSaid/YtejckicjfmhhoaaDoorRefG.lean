/- What mixed, Mac and Short of the reference return. -/
import Derived.Test.YtejckicjfmhhoaaDoorRefF
import Derived.Test.YtejckicjfmhhoaaDoorShort
namespace Go.Proofs.YtejckicjfmhhoaaDoor
open Go.RowKit Dg

theorem xor_i64 (c d : UInt8) : bits .xor .i64 (c.toNat : Int) (d.toNat : Int) = ((c ^^^ d).toNat : Int) := by
  have hc := c.toNat_lt
  have hd := d.toNat_lt
  rw [(bitsN c.toNat d.toNat (by omega) (by omega)).1, UInt8.toNat_xor]

set_option maxRecDepth 100000 in
theorem mixed_any (key : ByteArray) (d : UInt8) (n : Int) (w : World) (hn : n = (d.toNat : Int)) (hk : key.size ≤ 64) :
    Calls Tryd.prog 36 #[.string key, .int .i64 n] w fun e w' => e = .returned (.string ⟨(padL key.data.toList d).toArray⟩) ∧ Below w.heap.size w w' := by
  subst hn
  obtain ⟨i5, hi5, hz5, hs5, hb5⟩ := info_parts Tryd.info5
  have HI := Lib.hid (And.intro hi5 (And.intro hz5 (And.intro hs5 hb5)))
  clear hi5 hz5 hs5 hb5
  go_enter Tryd.func36, Tryd.ntmps36
  go_wp2_with fail
  go_loopw [5, 6] (fun v sh wr => ∃ (i : Nat), i ≤ 64 ∧ sh = .int .i64 (i : Int) ∧ wr.ownsRow w.heap.size 5 1 v i (bc (laidK key.data.toList d i)) ∧ Below w.heap.size w wr)
    (fun _ sh _ => (64 - intOf sh).toNat)
  case atStart => exact ⟨0, by omega, rfl, World.ownsRow_nil _ _ _ _, Below.refl _ _⟩
  case round =>
    obtain ⟨i, hi, rfl, hown, hb⟩ := hrel
    obtain ⟨wq, rfl⟩ : ∃ wq : World, wq = wr := ⟨_, rfl⟩
    have hbz := hb.size
    by_cases hlt : i < 64
    · obtain ⟨hi5, hz5, hs5, hb5⟩ := HI.out
      by_cases hik : i < key.size
      · have hc8 : key[i].toNat < 256 := key[i].toNat_lt
        have HN := Lib.hid (laidK_next (key := key.data.toList) (x := d) (i := i) rfl ((full_get hik).trans (show key.data.toList[i]? = some key[i] by rw [List.getElem?_eq_getElem (by simpa using hik)]; rfl)))
        have hx := xor_i64 key[i] d
        have hw := wrap8 (key[i] ^^^ d)
        generalize hxe : key[i] ^^^ d = xb at *
        clear hxe
        go_wp2_with (at_builtin; refine wpList_append_own _ rfl _ _ 30 rfl w.heap.size 5 i5 (.int .u8 0) 1 1 Tryd.underlying30 hi5 hz5 hs5 hb5 rfl (by decide) _ _ _ rfl (hown.alloc _) ⟨wq.heap.size, 0, none⟩ 1 1 [_] rfl rfl (cell_one_new _ _ _) (by simp [Value.oneCell']) (by unfold maxLen; omega) (by omega) (by simp; omega) ?_; intro v' w5 hown' hgrow' _)
        have hb' := (hb.alloc hbz _).grown hgrow' (by simp; omega) (fun k e => (hown.lt k e).1)
        have hown2 := byte_own2 (b := xb) rfl hown'
        rw [HN.out] at hown2
        exact ⟨⟨i + 1, by omega, by go_num, hown2, hb'⟩, by simp [intOf]; omega⟩
      · have HN := Lib.hid (laidK_next (key := key.data.toList) (x := d) (i := i) rfl (full_get0 (show key.data.toList.length ≤ i from Nat.le_of_not_lt hik) hlt))
        have hx : bits .xor .i64 0 (d.toNat : Int) = (((0 : UInt8) ^^^ d).toNat : Int) := xor_i64 0 d
        have hw := wrap8 ((0 : UInt8) ^^^ d)
        generalize hxe : (0 : UInt8) ^^^ d = xb at *
        clear hxe
        go_wp2_with (at_builtin; refine wpList_append_own _ rfl _ _ 30 rfl w.heap.size 5 i5 (.int .u8 0) 1 1 Tryd.underlying30 hi5 hz5 hs5 hb5 rfl (by decide) _ _ _ rfl (hown.alloc _) ⟨wq.heap.size, 0, none⟩ 1 1 [_] rfl rfl (cell_one_new _ _ _) (by simp [Value.oneCell']) (by unfold maxLen; omega) (by omega) (by simp; omega) ?_; intro v' w5 hown' hgrow' _)
        have hb' := (hb.alloc hbz _).grown hgrow' (by simp; omega) (fun k e => (hown.lt k e).1)
        have hown2 := byte_own2 (b := xb) rfl hown'
        rw [HN.out] at hown2
        exact ⟨⟨i + 1, by omega, by go_num, hown2, hb'⟩, by simp [intOf]; omega⟩
    · have hi64 : i = 64 := by omega
      subst hi64
      rw [laidK_full d (show key.data.toList.length ≤ 64 from hk)] at hown
      have hcv := own_str hown
      go_wp2_with fail
      exact bodyPost_ret (results_tmp rfl _ _ _) rfl ⟨rfl, hb⟩

theorem rsum_cat (l : List UInt8) (s : ByteArray) (w : World) (hs : l.length + s.size ≤ 1000000) :
    Calls Tryd.prog 21 #[.string (⟨l.toArray⟩ ++ s)] w fun e w' => ∃ R : List UInt8, Hid (R = sumL (l ++ s.data.toList)) ∧ R.length = 32 ∧ e = .returned (.string ⟨R.toArray⟩) ∧ Below w.heap.size w w' := by
  refine (rsum_any _ w (by rw [cat_size]; exact hs)).mono ?_
  rintro e w' ⟨rfl, hb⟩
  exact ⟨_, rfl, sumL_length _, by rw [cat_list], hb⟩

theorem mixed92 (key : ByteArray) (w : World) (hk : key.size ≤ 64) :
    Calls Tryd.prog 36 #[.string key, .int .i64 92] w fun e w' => e = .returned (.string ⟨(padL key.data.toList 92).toArray⟩) ∧ Below w.heap.size w w' := mixed_any key 92 92 w rfl hk
theorem mixed54 (key : ByteArray) (w : World) (hk : key.size ≤ 64) :
    Calls Tryd.prog 36 #[.string key, .int .i64 54] w fun e w' => e = .returned (.string ⟨(padL key.data.toList 54).toArray⟩) ∧ Below w.heap.size w w' := mixed_any key 54 54 w rfl hk

set_option maxRecDepth 100000 in
theorem rmac_any (key s : ByteArray) (w : World) (hk : key.size ≤ 1000000) (hs : s.size ≤ 900000) :
    Calls Tryd.prog 27 #[.string key, .string s] w fun e w' => e = .returned (.string ⟨(macL key.data.toList s.data.toList).toArray⟩) ∧ Below w.heap.size w w' := by
  go_enter Tryd.func27, Tryd.ntmps27
  by_cases hl : 64 < key.size
  · have HM : Hid (macK key.data.toList = sumL key.data.toList) := if_pos hl
    have hk3 : (sumL key.data.toList).length ≤ 64 := by rw [sumL_length]; omega
    have hk2 : (ByteArray.mk (sumL key.data.toList).toArray).size ≤ 64 := by rw [mk_size]; exact hk3
    have hp1 : (padL (sumL key.data.toList) 92).length = 64 := padL_length 92 hk3
    have hp2 : (padL (sumL key.data.toList) 54).length = 64 := padL_length 54 hk3
    go_wp2_with fail
    refine (rsum_any _ _ hk).mono ?_
    rintro e w1 ⟨rfl, hb1⟩
    go_wp2_with fail
    refine (mixed54 ⟨(sumL key.data.toList).toArray⟩ _ hk2).mono ?_
    rintro e w2 ⟨rfl, hb2⟩
    replace hb2 := hb1.trans (hb2.mono hb1.size)
    clear hb1
    go_wp2_with fail
    refine (rsum_cat _ _ _ (by rw [hp2]; omega)).mono ?_
    rintro e w4 ⟨R, HR, hp3, rfl, hb4⟩
    replace hb4 := hb2.trans (hb4.mono hb2.size)
    clear hb2
    go_wp2_with fail
    refine (mixed92 ⟨(sumL key.data.toList).toArray⟩ _ hk2).mono ?_
    rintro e w3 ⟨rfl, hb3⟩
    replace hb3 := hb4.trans (hb3.mono hb4.size)
    clear hb4
    go_wp2_with fail
    refine (rsum_cat _ _ _ (by rw [hp1, mk_size, hp3]; omega)).mono ?_
    rintro e w5 ⟨R5, HR5, hp5, rfl, hb5⟩
    replace hb5 := hb3.trans (hb5.mono hb3.size)
    go_wp2_with fail
    refine bodyPost_ret (results_tmp rfl _ _ _) rfl ⟨?_, hb5⟩
    rw [macL, HM.out, ← HR.out]
    have := HR5.out
    rw [← this]
    rfl
  · have HM : Hid (macK key.data.toList = key.data.toList) := if_neg hl
    have hk2 : key.size ≤ 64 := by omega
    have hk3 : key.data.toList.length ≤ 64 := hk2
    have hp1 : (padL key.data.toList 92).length = 64 := padL_length 92 hk3
    have hp2 : (padL key.data.toList 54).length = 64 := padL_length 54 hk3
    go_wp2_with fail
    refine (mixed54 key _ hk2).mono ?_
    rintro e w2 ⟨rfl, hb2⟩
    go_wp2_with fail
    refine (rsum_cat _ _ _ (by rw [hp2]; omega)).mono ?_
    rintro e w4 ⟨R, HR, hp3, rfl, hb4⟩
    replace hb4 := hb2.trans (hb4.mono hb2.size)
    clear hb2
    go_wp2_with fail
    refine (mixed92 key _ hk2).mono ?_
    rintro e w3 ⟨rfl, hb3⟩
    replace hb3 := hb4.trans (hb3.mono hb4.size)
    clear hb4
    go_wp2_with fail
    refine (rsum_cat _ _ _ (by rw [hp1, mk_size, hp3]; omega)).mono ?_
    rintro e w5 ⟨R5, HR5, hp5, rfl, hb5⟩
    replace hb5 := hb3.trans (hb5.mono hb3.size)
    go_wp2_with fail
    refine bodyPost_ret (results_tmp rfl _ _ _) rfl ⟨?_, hb5⟩
    rw [macL, HM.out, ← HR.out]
    have := HR5.out
    rw [← this]
    rfl

set_option maxRecDepth 100000 in
theorem rshort_any (s : ByteArray) (w : World) (hs : s.size ≤ 1000000) :
    Calls Tryd.prog 23 #[.string s] w fun e w' => e = .returned (.int .i64 ((acc ((sumL s.data.toList).take 8) / 16 : Nat) : Int)) ∧ Below w.heap.size w w' := by
  obtain ⟨L, HL, hL⟩ : ∃ L, Hid (sumL s.data.toList = L) ∧ L.length = 32 := ⟨_, rfl, sumL_length _⟩
  go_enter Tryd.func23, Tryd.ntmps23
  go_wp2_with fail
  refine (rsum_any s w hs).mono ?_
  rintro e w1 ⟨rfl, hb1⟩
  rw [HL.out]
  have hms : (ByteArray.mk L.toArray).size = 32 := by rw [mk_size, hL]
  have HG : ∀ j (h : j < (ByteArray.mk L.toArray).size), L.getD j 0 = (ByteArray.mk L.toArray)[j] := by
    intro j h
    rw [List.getD_eq_getElem?_getD, List.getElem?_eq_getElem (by omega)]; rfl
  have HG := Lib.hid HG
  go_wp2_with fail
  go_loop [4, 5] (fun v i => ∃ (k n : Nat), k ≤ 7 ∧ i = .int .i64 (k : Int) ∧ v = .int .i64 (n : Int) ∧ Hid (n = acc (L.take k)) ∧ n < 72057594037927936)
    (fun _ i => (7 - intOf i).toNat)
  case atStart => exact ⟨0, 0, by omega, rfl, rfl, by rfl, by omega⟩
  case round =>
    obtain ⟨k, n, hk, rfl, rfl, HN, hn⟩ := hrel
    by_cases hlt : k < 7
    · have hn6 : n < 281474976710656 := by rw [HN.out]; exact acc_take_lt (m := 6) (by omega)
      have hkL : k < (ByteArray.mk L.toArray).size := by omega
      have hc8 : (ByteArray.mk L.toArray)[k].toNat < 256 := UInt8.toNat_lt _
      have HN2 : Hid (n * 256 + (ByteArray.mk L.toArray)[k].toNat = acc (L.take (k + 1))) := by
        show _ = _
        rw [acc_take (by omega), ← HN.out, HG.out k hkL]
      go_wp2_with fail
      go_round
      case rel => exact ⟨k + 1, n * 256 + (ByteArray.mk L.toArray)[k].toNat, by omega, by go_num, by go_num, HN2, by omega⟩
      case measure => simp [intOf]; omega
    · have hk7 : k = 7 := by omega
      subst hk7
      have hkL : 7 < (ByteArray.mk L.toArray).size := by omega
      have hc8 : (ByteArray.mk L.toArray)[7].toNat < 256 := UInt8.toNat_lt _
      have HF : Hid (acc (L.take 8) / 16 = n * 16 + (ByteArray.mk L.toArray)[7].toNat / 16) := by
        show _ = _
        rw [acc_take (by omega), ← HN.out, HG.out 7 hkL]
        omega
      go_wp2_with fail
      refine bodyPost_ret (results_tmp rfl _ _ _) rfl ⟨?_, hb1⟩
      rw [HL.out]
      show Ending.returned (.int .i64 ((n : Int) * 16 + ((ByteArray.mk L.toArray)[7].toNat : Int) / 16)) = Ending.returned (.int .i64 ((acc (L.take 8) / 16 : Nat) : Int))
      rw [HF.out]
      simp
end Go.Proofs.YtejckicjfmhhoaaDoor

/- What Mac returns. -/
import Derived.Test.YtejckicjfmhhoaaDoorMask
namespace Dg

def macK (key : List UInt8) : List UInt8 := if 64 < key.length then sumL key else key
def macL (key s : List UInt8) : List UInt8 := sumL (padL (macK key) 92 ++ sumL (padL (macK key) 54 ++ s))

theorem sumL_length (s : List UInt8) : (sumL s).length = 32 := by
  unfold sumL
  simp [St.list, bytes4]
theorem padL_length {k : List UInt8} (x : UInt8) (h : k.length ≤ 64) : (padL k x).length = 64 := by
  unfold padL
  rw [List.length_map, full_length h]
theorem macK_length (key : List UInt8) : (macK key).length ≤ 64 := by
  unfold macK
  split
  · rw [sumL_length]; omega
  · omega

end Dg
namespace Go.Proofs.YtejckicjfmhhoaaDoor
open Go.RowKit Dg

theorem mk_size (l : List UInt8) : (ByteArray.mk l.toArray).size = l.length := by show l.toArray.size = _; simp
theorem size_len (s : ByteArray) : s.data.toList.length = s.size := rfl

theorem cat_size (l : List UInt8) (s : ByteArray) : (ByteArray.mk l.toArray ++ s).size = l.length + s.size := by
  rw [ByteArray.size_append, mk_size]
theorem cat_list (l : List UInt8) (s : ByteArray) : (ByteArray.mk l.toArray ++ s).data.toList = l ++ s.data.toList := by
  rw [ByteArray.data_append]
  simp

theorem sum_cat (l : List UInt8) (s : ByteArray) (w : World) (hs : l.length + s.size ≤ 1000000) (hK : KT w) (hpos : 0 < w.heap.size) :
    Calls Tryd.prog 18 #[.string (⟨l.toArray⟩ ++ s)] w fun e w' => ∃ R : List UInt8, Hid (R = sumL (l ++ s.data.toList)) ∧ R.length = 32 ∧ e = .returned (.string ⟨R.toArray⟩) ∧ Below w.heap.size w w' := by
  refine (sum_any _ w (by rw [cat_size]; exact hs) hK hpos).mono ?_
  rintro e w' ⟨rfl, hb⟩
  exact ⟨_, rfl, sumL_length _, by rw [cat_list], hb⟩

theorem padded92 (key : ByteArray) (w : World) (hk : key.size ≤ 64) :
    Calls Tryd.prog 29 #[.string key, .int .u8 92] w fun e w' => e = .returned (.string ⟨(padL key.data.toList 92).toArray⟩) ∧ Below w.heap.size w w' := padded_any key 92 w hk
theorem padded54 (key : ByteArray) (w : World) (hk : key.size ≤ 64) :
    Calls Tryd.prog 29 #[.string key, .int .u8 54] w fun e w' => e = .returned (.string ⟨(padL key.data.toList 54).toArray⟩) ∧ Below w.heap.size w w' := padded_any key 54 w hk

set_option maxRecDepth 100000 in
theorem mac_any (key s : ByteArray) (w : World) (hk : key.size ≤ 1000000) (hs : s.size ≤ 900000) (hK : KT w) (hpos : 0 < w.heap.size) :
    Calls Tryd.prog 17 #[.string key, .string s] w fun e w' => e = .returned (.string ⟨(macL key.data.toList s.data.toList).toArray⟩) ∧ Below w.heap.size w w' := by
  go_enter Tryd.func17, Tryd.ntmps17
  by_cases hl : 64 < key.size
  · have HM : Hid (macK key.data.toList = sumL key.data.toList) := if_pos hl
    go_wp2_with fail
    refine (sum_any _ _ hk hK hpos).mono ?_
    rintro e w1 ⟨rfl, hb1⟩
    have hz1 := hb1.size
    have hk3 : (sumL key.data.toList).length ≤ 64 := by rw [sumL_length]; omega
    have hk2 : (ByteArray.mk (sumL key.data.toList).toArray).size ≤ 64 := by rw [mk_size]; exact hk3
    have hp1 : (padL (sumL key.data.toList) 92).length = 64 := padL_length 92 hk3
    have hp2 : (padL (sumL key.data.toList) 54).length = 64 := padL_length 54 hk3
    go_wp2_with fail
    refine (padded92 ⟨(sumL key.data.toList).toArray⟩ _ hk2).mono ?_
    rintro e w2 ⟨rfl, hb2⟩
    have hz2 := hb2.size
    go_wp2_with fail
    refine (padded54 ⟨(sumL key.data.toList).toArray⟩ _ hk2).mono ?_
    rintro e w3 ⟨rfl, hb3⟩
    have hz3 := hb3.size
    have hb23 := hb2.trans (hb3.mono hz2)
    have hb03 : Below w.heap.size w w3 := hb1.trans (hb23.mono hz1)
    go_wp2_with fail
    refine (sum_cat _ _ _ (by rw [hp2]; omega) (hK.below hb03 hpos) (Nat.lt_of_lt_of_le hpos hb03.size)).mono ?_
    rintro e w4 ⟨R, HR, hp3, rfl, hb4⟩
    have hb04 := hb03.trans (hb4.mono hb03.size)
    go_wp2_with fail
    refine (sum_cat _ _ _ (by rw [hp1, mk_size, hp3]; omega) (hK.below hb04 hpos) (Nat.lt_of_lt_of_le hpos hb04.size)).mono ?_
    rintro e w5 ⟨R5, HR5, hp5, rfl, hb5⟩
    have hb05 := hb04.trans (hb5.mono hb04.size)
    go_wp2_with fail
    refine bodyPost_ret (results_tmp rfl _ _ _) rfl ⟨?_, hb05⟩
    rw [macL, HM.out, ← HR.out]
    have := HR5.out
    rw [← this]
    rfl
  · have HM : Hid (macK key.data.toList = key.data.toList) := if_neg hl
    have hk2 : key.size ≤ 64 := by omega
    have hk3 : key.data.toList.length ≤ 64 := hk2
    have hp1 : (padL key.data.toList 92).length = 64 := padL_length 92 hk3
    have hp2 : (padL key.data.toList 54).length = 64 := padL_length 54 hk3
    go_wp2_with fail
    refine (padded92 key _ hk2).mono ?_
    rintro e w2 ⟨rfl, hb2⟩
    have hz2 := hb2.size
    go_wp2_with fail
    refine (padded54 key _ hk2).mono ?_
    rintro e w3 ⟨rfl, hb3⟩
    have hz3 := hb3.size
    have hb23 := hb2.trans (hb3.mono hz2)
    have hb03 : Below w.heap.size w w3 := hb23
    go_wp2_with fail
    refine (sum_cat _ _ _ (by rw [hp2]; omega) (hK.below hb03 hpos) (Nat.lt_of_lt_of_le hpos hb03.size)).mono ?_
    rintro e w4 ⟨R, HR, hp3, rfl, hb4⟩
    have hb04 := hb03.trans (hb4.mono hb03.size)
    go_wp2_with fail
    refine (sum_cat _ _ _ (by rw [hp1, mk_size, hp3]; omega) (hK.below hb04 hpos) (Nat.lt_of_lt_of_le hpos hb04.size)).mono ?_
    rintro e w5 ⟨R5, HR5, hp5, rfl, hb5⟩
    have hb05 := hb04.trans (hb5.mono hb04.size)
    go_wp2_with fail
    refine bodyPost_ret (results_tmp rfl _ _ _) rfl ⟨?_, hb05⟩
    rw [macL, HM.out, ← HR.out]
    have := HR5.out
    rw [← this]
    rfl
end Go.Proofs.YtejckicjfmhhoaaDoor

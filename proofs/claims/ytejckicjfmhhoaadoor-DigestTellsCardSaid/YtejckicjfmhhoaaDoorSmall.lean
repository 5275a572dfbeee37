/- small returns true. -/
import Derived.Test.YtejckicjfmhhoaaDoorSmV
namespace Go.Proofs.YtejckicjfmhhoaaDoor
open Go.RowKit Dg

set_option maxRecDepth 100000 in
theorem small_any (w : World) (hK : KT w) (hpos : 0 < w.heap.size) : Calls Tryd.prog 10 #[] w fun e w' => e = .returned (.bool true) ∧ Below w.heap.size w w' := by
  go_enter Tryd.func10, Tryd.ntmps10
  have hb0 := Below.refl w.heap.size w
  go_wp2_with fail
  refine (smUnhex1 _).mono ?_
  rintro e v0 ⟨rfl, hc0⟩
  have hb1 := hb0.trans (hc0.mono hb0.size)
  go_wp2_with fail
  refine (smUnhex2 _).mono ?_
  rintro e v1 ⟨rfl, hc1⟩
  have hb2 := hb1.trans (hc1.mono hb1.size)
  go_wp2_with fail
  refine (smUnb _).mono ?_
  rintro e v2 ⟨rfl, hc2⟩
  have hb3 := hb2.trans (hc2.mono hb2.size)
  go_wp2_with fail
  refine (smSum1 _ (hK.below hb3 hpos) (Nat.lt_of_lt_of_le hpos hb3.size)).mono ?_
  rintro e v3 ⟨rfl, hc3⟩
  have hb4 := hb3.trans (hc3.mono hb3.size)
  go_wp2_with fail
  refine (smHex1 _).mono ?_
  rintro e v4 ⟨rfl, hc4⟩
  have hb5 := hb4.trans (hc4.mono hb4.size)
  go_wp2_with fail
  refine (smSum2 _ (hK.below hb5 hpos) (Nat.lt_of_lt_of_le hpos hb5.size)).mono ?_
  rintro e v5 ⟨rfl, hc5⟩
  have hb6 := hb5.trans (hc5.mono hb5.size)
  go_wp2_with fail
  refine (smHex2 _).mono ?_
  rintro e v6 ⟨rfl, hc6⟩
  have hb7 := hb6.trans (hc6.mono hb6.size)
  go_wp2_with fail
  refine (smCrc1 _).mono ?_
  rintro e v7 ⟨rfl, rfl⟩
  go_wp2_with fail
  refine (smMac _ (hK.below hb7 hpos) (Nat.lt_of_lt_of_le hpos hb7.size)).mono ?_
  rintro e v8 ⟨rfl, hc8⟩
  have hb9 := hb7.trans (hc8.mono hb7.size)
  go_wp2_with fail
  refine (smHex3 _).mono ?_
  rintro e v9 ⟨rfl, hc9⟩
  have hb10 := hb9.trans (hc9.mono hb9.size)
  go_wp2_with fail
  refine (smCrc2 _).mono ?_
  rintro e v10 ⟨rfl, rfl⟩
  go_wp2_with fail
  refine (smBase _).mono ?_
  rintro e v11 ⟨rfl, hc11⟩
  have hb12 := hb10.trans (hc11.mono hb10.size)
  go_wp2_with fail
  refine bodyPost_ret (v := .bool true) (by simp [results, Tryd.f10, go_sem]) rfl ⟨rfl, hb12⟩
end Go.Proofs.YtejckicjfmhhoaaDoor

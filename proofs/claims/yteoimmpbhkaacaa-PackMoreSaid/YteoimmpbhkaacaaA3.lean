import Derived.Test.YteoimmpbhkaacaaA1
namespace Go.Proofs.Yteoimmpbhkaacaa
open Go.RowKit PackL

theorem alone_any (n b h : Int) (w : World) (hb1 : -9223372036854775808 ≤ b) (hb2 : b ≤ 9223372036854775807) (hh2 : h ≤ 9223372036854775807) (hn2 : n ≤ 9223372036854775807) :
    Calls Try.prog 11 #[.int .i64 n, .int .i64 b, .int .i64 h] w fun e w' => e = .returned (.bool (aloneL n b h)) ∧ w = w' := by
  by_cases hb : 0 < b
  · have hs : aloneL n b h = decide (b - max h 0 < max n 0) := by simp [aloneL, hb]
    have HS := Lib.hid hs; clear hs
    by_cases h0 : h < 0
    all_goals by_cases n0 : n < 0
    all_goals
      go_enter Try.func11, Try.ntmps11
      go_wp2
      go_ret
      refine ⟨ret_bool ?_, rfl⟩
      rw [HS.out]
      simp
      omega
  · have hs : aloneL n b h = false := by simp [aloneL, hb]
    have HS := Lib.hid hs; clear hs
    go_enter Try.func11, Try.ntmps11
    go_wp2
    go_ret
    exact ⟨ret_bool HS.out.symm, rfl⟩

theorem refalone_any (n b h : Int) (w : World) (hb1 : -9223372036854775808 ≤ b) (hb2 : b ≤ 9223372036854775807) (hh2 : h ≤ 9223372036854775807) (hn2 : n ≤ 9223372036854775807) :
    Calls Try.prog 12 #[.int .i64 n, .int .i64 b, .int .i64 h] w fun e w' => e = .returned (.bool (aloneL n b h)) ∧ w = w' := by
  by_cases hb : 0 < b
  · by_cases hr : b - max h 0 < 0
    · have hs : aloneL n b h = true := by simp [aloneL, hb]; omega
      have HS := Lib.hid hs; clear hs
      go_enter Try.func12, Try.ntmps12
      go_wp2_with (go_at_call 16; refine (rest_any _ _ _ (by omega) (by omega) (by omega)).mono ?_; rintro e w' ⟨rfl, rfl⟩)
      go_ret
      exact ⟨ret_bool HS.out.symm, rfl⟩
    · have hs : aloneL n b h = decide (b - max h 0 < max n 0) := by simp [aloneL, hb]
      have HS := Lib.hid hs; clear hs
      go_enter Try.func12, Try.ntmps12
      go_wp2_with (first | (go_at_call 16; refine (rest_any _ _ _ (by omega) (by omega) (by omega)).mono ?_; rintro e w' ⟨rfl, rfl⟩) | (go_at_call 17; refine (size_any _ _).mono ?_; rintro e w' ⟨rfl, rfl⟩))
      go_ret
      have hd : decide (b - max h 0 < 0) = false := by simp; omega
      exact ⟨ret_bool (by rw [HS.out, hd]; rfl), rfl⟩
  · have hs : aloneL n b h = false := by simp [aloneL, hb]
    have HS := Lib.hid hs; clear hs
    go_enter Try.func12, Try.ntmps12
    go_wp2
    go_ret
    exact ⟨ret_bool HS.out.symm, rfl⟩
end Go.Proofs.Yteoimmpbhkaacaa

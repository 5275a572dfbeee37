import Derived.Test.YteoimmpbhkaacaaRows
import Derived.Test.YteoimmpbhkaacaaPlain
import Derived.Test.YteoimmpbhkaacaaMem
import Derived.Outline
import Derived.LoopTactic
import Derived.WalkLawsBesides
namespace Go.Proofs.Yteoimmpbhkaacaa
open Go.RowKit PackL

theorem size_any (n : Int) (w : World) : Calls Try.prog 17 #[.int .i64 n] w fun e w' => e = .returned (.int .i64 (max n 0)) ∧ w = w' := by
  go_enter Try.func17, Try.ntmps17
  go_wp2
  all_goals go_ret
  all_goals exact ⟨ret_int (by omega), rfl⟩

theorem rest_any (n h : Int) (w : World) (h1 : 1 ≤ n) (h2 : n ≤ 9223372036854775807) (h3 : h ≤ 9223372036854775807) : Calls Try.prog 16 #[.int .i64 n, .int .i64 h] w fun e w' => e = .returned (.int .i64 (n - max h 0)) ∧ w = w' := by
  have hm : 0 ≤ max h 0 := by omega
  have hm2 : max h 0 ≤ 9223372036854775807 := by omega
  generalize hq : max h 0 = q at *
  have HQ := Lib.hid hq; clear hq
  go_enter Try.func16, Try.ntmps16
  go_wp2_with (go_at_call 17; refine (size_any _ _).mono ?_; rintro e w' ⟨rfl, rfl⟩; rw [HQ.out])
  go_ret
  exact ⟨ret_int (by omega), rfl⟩

theorem rest_wrap (n h : Int) (w : World) (h3 : h ≤ 9223372036854775807) : Calls Try.prog 16 #[.int .i64 n, .int .i64 h] w fun e w' => e = .returned (.int .i64 (wrap64 (n - max h 0))) ∧ w = w' := by
  have hm : 0 ≤ max h 0 := by omega
  have hm2 : max h 0 ≤ 9223372036854775807 := by omega
  generalize hq : max h 0 = q at *
  have HQ := Lib.hid hq; clear hq
  go_enter Try.func16, Try.ntmps16
  go_wp2_with (go_at_call 17; refine (size_any _ _).mono ?_; rintro e w' ⟨rfl, rfl⟩; rw [HQ.out])
  go_ret
  exact ⟨rfl, rfl⟩

def restL (n h : Int) : Int := if n ≤ 0 then wrap64 (n - max h 0) else n - max h 0
theorem rest_gen (n h : Int) (w : World) (h2 : n ≤ 9223372036854775807) (h3 : h ≤ 9223372036854775807) : Calls Try.prog 16 #[.int .i64 n, .int .i64 h] w fun e w' => e = .returned (.int .i64 (restL n h)) ∧ w = w' := by
  by_cases hn : n ≤ 0
  · unfold restL
    rw [if_pos hn]
    exact rest_wrap n h w h3
  · unfold restL
    rw [if_neg hn]
    exact rest_any n h w (by omega) h2 h3

theorem until_go {xs : List Int} {i k : Nat} {R r r' x : Int} (hR : Hid (scan (xs.drop i) R + i = scan (xs.drop k) r + k)) (hS : Hid (scan (xs.drop k) r = if r < max x 0 then 0 else scan (xs.drop (k + 1)) (r - max x 0) + 1))
    (hr : r' = r - max x 0) (h : ¬ r < max x 0) : Hid (scan (xs.drop i) R + i = scan (xs.drop (k + 1)) r' + (k + 1)) := by
  show _ = _
  subst hr
  have h1 := hR.out
  have h2 := hS.out
  rw [if_neg h] at h2
  omega
theorem until_stop {xs : List Int} {i k : Nat} {R r x : Int} (hR : Hid (scan (xs.drop i) R + i = scan (xs.drop k) r + k)) (hS : Hid (scan (xs.drop k) r = if r < max x 0 then 0 else scan (xs.drop (k + 1)) (r - max x 0) + 1))
    (h : r < max x 0) : scan (xs.drop i) R + i = k := by
  have h1 := hR.out
  have h2 := hS.out
  rw [if_pos h] at h2
  omega

set_option maxHeartbeats 400000 in
theorem until_any (v : Value) (xs : List Int) (i : Nat) (bud head : Int) (w : World) (hv : Ints w v xs) (hl : xs.length ≤ 4611686018427387904) (hi : i < xs.length)
    (hb1 : -9223372036854775808 ≤ bud) (hb2 : bud ≤ 9223372036854775807) (hh2 : head ≤ 9223372036854775807) :
    Calls Try.prog 19 #[v, .int .i64 i, .int .i64 bud, .int .i64 head] w fun e w' => e = .returned (.int .i64 (untilL xs i bud head)) ∧ w = w' := by
  rcases hv.cases with ⟨rfl, _⟩ | ⟨b, off, cap, rfl, hcap, hpos, hcells⟩
  · simp at hi
  by_cases hb : bud ≤ 0
  · have hu : untilL xs i bud head = xs.length := by unfold untilL; rw [if_neg (by omega), if_pos hb]
    have HU := Lib.hid hu; clear hu
    go_enter Try.func19, Try.ntmps19
    go_wp2
    go_ret
    exact ⟨ret_int (by rw [HU.out]), rfl⟩
  · have hu : untilL xs i bud head = i + max (scan (xs.drop i) (bud - max head 0)) 1 := by unfold untilL; rw [if_neg (by omega), if_neg (by omega)]
    have HU := Lib.hid hu; clear hu
    have hb' : ¬ bud ≤ 0 := hb
    have H0 : Hid (∀ r : Int, r = bud - max head 0 → -9223372036854775808 ≤ r ∧ r ≤ 9223372036854775807) := fun r hr => by omega
    go_enter Try.func19, Try.ntmps19
    go_wp2
    all_goals
      go_loop [9, 10] (fun r k => ∃ (kn : Nat) (rn : Int), i ≤ kn ∧ kn ≤ xs.length ∧ k = .int .i64 kn ∧ r = .int .i64 rn ∧ -9223372036854775808 ≤ rn ∧ rn ≤ 9223372036854775807 ∧ Hid (scan (xs.drop i) (bud - max head 0) + i = scan (xs.drop kn) rn + kn))
        (fun _ k => xs.length - (intOf k).toNat)
      case atStart =>
        refine ⟨i, _, Nat.le_refl _, by omega, rfl, rfl, by omega, by omega, ?_⟩
        show _ = _
        congr 2
        omega
      case round =>
        obtain ⟨k, r, hk1, hk2, rfl, rfl, hr1, hr2, HR⟩ := hrel
        by_cases hlt : k < xs.length
        · have hs := scan_drop xs k r hlt
          obtain ⟨x, hx, hc⟩ : ∃ x, xs[k] = x ∧ w.cell? ⟨b, off + k, none⟩ = some (.int .i64 x) := ⟨_, rfl, hcells k hlt⟩
          rw [hx] at hs
          have HS := Lib.hid hs; clear hs hx hcells
          by_cases hx0 : x < 0
          all_goals by_cases hr0 : r < max x 0
          all_goals go_wp2
          all_goals first
            | (go_ret
               refine ⟨ret_int ?_, rfl⟩
               have h2 := until_stop HR HS hr0
               have h3 := HU.out
               omega)
            | (refine ⟨⟨k + 1, _, by omega, by omega, by go_num, rfl, by omega, by omega, until_go HR HS (by omega) hr0⟩, ?_⟩
               simp [intOf]; omega)
            | skip
        · have hk : k = xs.length := by omega
          have h0 : scan (xs.drop k) r = 0 := by rw [hk]; simp [scan]
          have H1 := Lib.hid h0; clear h0 hk hcells
          go_wp2
          go_ret
          refine ⟨ret_int ?_, rfl⟩
          have h1 := HR.out
          have h2 := H1.out
          have h3 := HU.out
          omega
end Go.Proofs.Yteoimmpbhkaacaa

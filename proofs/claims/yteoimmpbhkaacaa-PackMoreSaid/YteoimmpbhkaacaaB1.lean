/- What the statements' own helpers tame and weight return. -/
import Derived.Test.YteoimmpbhkaacaaA8
import Derived.Test.YteoimmpbhkaacaaPlain2
namespace Go.Proofs.Yteoimmpbhkaacaa
open Go.RowKit PackL

/-- The inputs that 'tame' lets by. -/
structure Tame (xs : List Int) (b h : Int) : Prop where
  sizes : ∀ x ∈ xs, x ≤ 1099511627776
  len : xs.length ≤ 300
  head : h ≤ 1099511627776
  budget : b ≤ 1125899906842624

open Classical in
set_option maxHeartbeats 400000 in
theorem tame_any (v : Value) (xs : List Int) (b h : Int) (w : World) (hv : Ints w v xs) (hl : xs.length ≤ 9223372036854775807) :
    Calls Try.prog 13 #[v, .int .i64 b, .int .i64 h] w fun e w' => e = .returned (.bool (decide (Tame xs b h))) ∧ w = w' := by
  obtain ⟨a, cap, rfl, _⟩ := id hv
  have HV := Lib.hid hv; clear hv
  go_enter Try.func13, Try.ntmps13
  go_wp2
  go_loop [7] (fun i => ∃ k : Nat, k ≤ xs.length ∧ i = .int .i64 k ∧ Hid (∀ x ∈ xs.take k, x ≤ 1099511627776)) (fun i => xs.length - (intOf i).toNat)
  case atStart => exact ⟨0, Nat.zero_le _, rfl, fun x hx => by simp at hx⟩
  case round =>
    obtain ⟨k, hk, rfl, HT⟩ := hrel
    by_cases hlt : k < xs.length
    · obtain ⟨b', o', c', x, e, hx, hxe⟩ := HV.out.at hlt
      cases e
      by_cases hbig : 1099511627776 < x
      · have hn : decide (Tame xs b h) = false := by
          rw [decide_eq_false_iff_not]
          intro ht
          have := ht.sizes _ (List.getElem_mem hlt)
          omega
        have HN := Lib.hid hn; clear hn hxe
        go_wp2
        go_ret
        exact ⟨ret_bool HN.out.symm, rfl⟩
      · have hT : Hid (∀ x ∈ xs.take (k + 1), x ≤ 1099511627776) := by
          intro y hy
          rw [List.take_succ_eq_append_getElem hlt] at hy
          rcases List.mem_append.1 hy with hy | hy
          · exact HT.out y hy
          · simp only [List.mem_singleton] at hy; omega
        clear hxe
        go_wp2
        go_round
        case rel => exact ⟨k + 1, by omega, by go_num, hT⟩
        case measure => simp [intOf]; omega
    · have hall : ∀ x ∈ xs, x ≤ 1099511627776 := by
        have := HT.out
        rwa [List.take_of_length_le (by omega)] at this
      by_cases h1 : xs.length ≤ 300
      · by_cases h2 : h ≤ 1099511627776
        · have hd : decide (Tame xs b h) = decide (b ≤ 1125899906842624) := by
            congr 1
            rw [eq_iff_iff]
            exact ⟨fun ht => ht.budget, fun hb => ⟨hall, h1, h2, hb⟩⟩
          have HN := Lib.hid hd; clear hd hall HT
          go_wp2
          go_ret
          exact ⟨ret_bool HN.out.symm, rfl⟩
        · have hd : decide (Tame xs b h) = false := by
            rw [decide_eq_false_iff_not]
            exact fun ht => h2 ht.head
          have HN := Lib.hid hd; clear hd hall HT
          go_wp2
          go_ret
          exact ⟨ret_bool HN.out.symm, rfl⟩
      · have hd : decide (Tame xs b h) = false := by
          rw [decide_eq_false_iff_not]
          exact fun ht => h1 ht.len
        have HN := Lib.hid hd; clear hd hall HT
        go_wp2
        go_ret
        exact ⟨ret_bool HN.out.symm, rfl⟩

theorem tame_yes (v : Value) (xs : List Int) (b h : Int) (w : World) (hv : Ints w v xs) (ht : Tame xs b h) :
    Calls Try.prog 13 #[v, .int .i64 b, .int .i64 h] w fun e w' => e = .returned (.bool true) ∧ w = w' :=
  (tame_any v xs b h w hv (by have := ht.len; omega)).mono fun e w' ⟨h1, h2⟩ => ⟨by rw [h1]; simp [ht], h2⟩

theorem tame_no (v : Value) (xs : List Int) (b h : Int) (w : World) (hv : Ints w v xs) (hl : xs.length ≤ 9223372036854775807) (ht : ¬ Tame xs b h) :
    Calls Try.prog 13 #[v, .int .i64 b, .int .i64 h] w fun e w' => e = .returned (.bool false) ∧ w = w' :=
  (tame_any v xs b h w hv hl).mono fun e w' ⟨h1, h2⟩ => ⟨by rw [h1]; simp [ht], h2⟩

set_option maxHeartbeats 400000 in
theorem weight_any (v g : Value) (xs : List Int) (a z : Nat) (b h : Int) (w : World) (hv : Ints w v xs) (hg : Ints w g (span (a, z))) (ht : Tame xs b h) (haz : a ≤ z) (hz : z ≤ xs.length) :
    Calls Try.prog 14 #[v, g, .int .i64 h, .int .i64 1125899906842624] w fun e w' => e = .returned (.int .i64 (wt xs a z h)) ∧ w = w' := by
  obtain ⟨pv, cv, rfl, _⟩ := id hv
  obtain ⟨pg, cg, rfl, _⟩ := id hg
  have hsl := span_length (a, z)
  simp only at hsl
  have HV := Lib.hid hv; clear hv
  have HG := Lib.hid hg; clear hg
  have hlen := ht.len
  have hw0 : Hid (wt xs a a h = max h 0) := wt_start xs a h
  have HS := Lib.hid hsl
  rw [hsl]
  clear hsl
  by_cases h0 : h < 0
  all_goals
    go_enter Try.func14, Try.ntmps14
    go_wp2
    go_loop [9, 10] (fun n i => ∃ k : Nat, k ≤ z - a ∧ i = .int .i64 k ∧ n = .int .i64 (wt xs a (a + k) h)) (fun _ i => z - a - (intOf i).toNat)
    case atStart => exact ⟨0, Nat.zero_le _, rfl, by rw [Nat.add_zero, hw0.out]; congr 1; omega⟩
    case round =>
      obtain ⟨k, hk, rfl, rfl⟩ := hrel
      obtain ⟨hb1, hb2⟩ := wt_le xs h ht.sizes ht.head a k (by omega)
      by_cases hlt : k < z - a
      · obtain ⟨bg, og, cg', y, e, hy, hye⟩ := HG.out.at (by rw [HS.out]; exact hlt : k < (span (a, z)).length)
        rw [span_get] at hye
        obtain ⟨bv, ov, cv', x, e', hx, hxe⟩ := HV.out.at (show a + k < xs.length from by omega)
        subst hye
        cases e'
        cases e
        have hs := wt_succ xs a (a + k) h (by omega) (by omega)
        rw [hxe] at hs
        have HW := Lib.hid hs
        have hxb := ht.sizes _ (List.getElem_mem (show a + k < xs.length from by omega))
        rw [hxe] at hxb
        clear hs hxe
        generalize wt xs a (a + k) h = n at *
        by_cases hx0 : x < 0
        all_goals
          go_wp2
          go_round
          case rel => exact ⟨k + 1, by omega, by go_num, by rw [← Nat.add_assoc, HW.out]; congr 1; omega⟩
          case measure => simp [intOf]; omega
      · have hk' : a + k = z := by omega
        have HK := Lib.hid (show wt xs a z h = wt xs a (a + k) h from by rw [hk'])
        clear hk'
        generalize wt xs a (a + k) h = n at *
        go_wp2
        go_ret
        exact ⟨ret_int HK.out.symm, rfl⟩
end Go.Proofs.Yteoimmpbhkaacaa

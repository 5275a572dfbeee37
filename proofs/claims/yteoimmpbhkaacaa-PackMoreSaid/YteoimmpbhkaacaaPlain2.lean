/- What the greedy division fulfils: plain lists and numbers. -/
import Derived.Test.YteoimmpbhkaacaaPlain
namespace PackL

/-- The sum of the sizes, negative ones counted as 0. -/
def tot : List Int → Int
  | [] => 0
  | x :: r => max x 0 + tot r

theorem tot_nonneg : ∀ xs : List Int, 0 ≤ tot xs
  | [] => by simp [tot]
  | x :: r => by have := tot_nonneg r; simp only [tot]; omega

theorem tot_append : ∀ (xs ys : List Int), tot (xs ++ ys) = tot xs + tot ys
  | [], ys => by simp [tot]
  | x :: r, ys => by simp only [List.cons_append, tot, tot_append r ys]; omega

theorem scan_fits : ∀ (xs : List Int) (r : Int), 0 < scan xs r → tot (xs.take (scan xs r)) ≤ r
  | [], r, h => by simp [scan] at h
  | x :: xs, r, h => by
    unfold scan at h ⊢
    split
    · rename_i hx; rw [if_pos hx] at h; omega
    · rename_i hx
      rw [List.take_succ_cons]
      simp only [tot]
      by_cases h0 : 0 < scan xs (r - max x 0)
      · have := scan_fits xs _ h0; omega
      · rw [show scan xs (r - max x 0) = 0 from by omega]; simp [tot]; omega

theorem scan_full : ∀ (xs : List Int) (r : Int), scan xs r < xs.length → r < tot (xs.take (scan xs r + 1))
  | [], r, h => by simp at h
  | x :: xs, r, h => by
    unfold scan at h ⊢
    split
    · simp [tot]; omega
    · rename_i hx
      rw [if_neg hx] at h
      have := scan_full xs (r - max x 0) (by simpa using h)
      rw [List.take_succ_cons]
      simp only [tot]
      omega

/-- The weight of the group from a up to z. -/
def wt (xs : List Int) (a z : Nat) (h : Int) : Int := max h 0 + tot ((xs.drop a).take (z - a))

theorem wt_start (xs : List Int) (a : Nat) (h : Int) : wt xs a a h = max h 0 := by simp [wt, tot]

theorem wt_succ (xs : List Int) (a k : Nat) (h : Int) (hk : a ≤ k) (hl : k < xs.length) : wt xs a (k + 1) h = wt xs a k h + max xs[k] 0 := by
  unfold wt
  rw [show k + 1 - a = (k - a) + 1 from by omega, List.take_succ_eq_append_getElem (by simp; omega), tot_append]
  simp only [List.getElem_drop, tot]
  have e : a + (k - a) = k := by omega
  simp only [e]
  omega

theorem wt_le (xs : List Int) (h : Int) (hx : ∀ x ∈ xs, x ≤ 1099511627776) (hh : h ≤ 1099511627776) (a : Nat) : ∀ n, a + n ≤ xs.length → wt xs a (a + n) h ≤ 1099511627776 * (n + 1) ∧ 0 ≤ wt xs a (a + n) h
  | 0, _ => by rw [Nat.add_zero, wt_start]; omega
  | n + 1, hl => by
    obtain ⟨h1, h2⟩ := wt_le xs h hx hh a n (by omega)
    rw [← Nat.add_assoc, wt_succ xs a (a + n) h (by omega) (by omega)]
    have := hx _ (List.getElem_mem (show a + n < xs.length from by omega))
    omega

/-- A group of the greedy division: within the budget, or a single one. -/
theorem until_fits (xs : List Int) (a : Nat) (b h : Int) (ha : a < xs.length) (hb : 0 < b) (hs : untilL xs a b h ≠ a + 1) : wt xs a (untilL xs a b h) h ≤ b := by
  unfold untilL at hs ⊢
  rw [if_neg (by omega), if_neg (by omega)] at hs ⊢
  have h0 : 0 < scan (xs.drop a) (b - max h 0) := by omega
  rw [show max (scan (xs.drop a) (b - max h 0)) 1 = scan (xs.drop a) (b - max h 0) from by omega]
  have := scan_fits _ _ h0
  unfold wt
  rw [show a + scan (xs.drop a) (b - max h 0) - a = scan (xs.drop a) (b - max h 0) from by omega]
  omega

/-- ... and the next element does not fit. -/
theorem until_full (xs : List Int) (a : Nat) (b h : Int) (ha : a < xs.length) (hl : untilL xs a b h < xs.length) : 0 < b ∧ b < wt xs a (untilL xs a b h + 1) h := by
  unfold untilL at hl ⊢
  rw [if_neg (by omega)] at hl ⊢
  split at hl
  · omega
  · rename_i hb
    rw [if_neg hb]
    refine ⟨by omega, ?_⟩
    have hk : scan (xs.drop a) (b - max h 0) < (xs.drop a).length := by simp; omega
    have hf := scan_full _ _ hk
    by_cases h0 : 0 < scan (xs.drop a) (b - max h 0)
    · rw [show max (scan (xs.drop a) (b - max h 0)) 1 = scan (xs.drop a) (b - max h 0) from by omega]
      unfold wt
      rw [show a + scan (xs.drop a) (b - max h 0) + 1 - a = scan (xs.drop a) (b - max h 0) + 1 from by omega]
      omega
    · have e : scan (xs.drop a) (b - max h 0) = 0 := by omega
      rw [e] at hf hl ⊢
      have h1 : wt xs a (a + 1) h = max h 0 + tot ((xs.drop a).take 1) := by unfold wt; rw [show a + 1 - a = 1 from by omega]
      have h2 := wt_succ xs a (a + 1) h (by omega) (by omega)
      simp only [Nat.zero_add] at hf
      show b < wt xs a (a + 1 + 1) h
      omega

theorem until_neg (xs : List Int) (a : Nat) (b h : Int) (ha : a < xs.length) (hb : b ≤ 0) : untilL xs a b h = xs.length := by
  unfold untilL; rw [if_neg (by omega), if_pos hb]

theorem alone_wt (xs : List Int) (a : Nat) (b h : Int) (ha : a < xs.length) (hb : 0 < b) : decide (b < wt xs a (a + 1) h) = aloneL xs[a] b h := by
  rw [wt_succ xs a a h (Nat.le_refl _) ha, wt_start]
  unfold aloneL
  rw [show decide (0 < b) = true from by simp [hb]]
  simp only [Bool.true_and]
  congr 1
  rw [eq_iff_iff]
  omega

theorem packL_at (xs : List Int) (b h : Int) (pre rest : List (Nat × Nat)) (p : Nat × Nat) (hc : cuts xs b h 0 = pre ++ p :: rest) : ∃ hi : pre.length < (packL xs b h).length, (packL xs b h)[pre.length] = span p := by
  have e : packL xs b h = pre.map span ++ span p :: rest.map span := by unfold packL; rw [hc]; simp
  have hl : (pre.map span).length = pre.length := List.length_map _
  refine ⟨by rw [e]; simp, ?_⟩
  simp only [e]
  rw [List.getElem_append_right (by omega)]
  simp

end PackL

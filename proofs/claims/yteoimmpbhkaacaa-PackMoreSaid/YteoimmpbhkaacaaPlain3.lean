/- The greedy division is a shortest one, and how it hangs on budget, head and sizes: plain lists and numbers. -/
import Derived.Test.YteoimmpbhkaacaaPlain2
namespace PackL

/-- How many groups there are from 'i' on. -/
def cnt (xs : List Int) (b h : Int) (i : Nat) : Nat := (cuts xs b h i).length

theorem cnt_stop (xs : List Int) (b h : Int) (i : Nat) (hi : xs.length ≤ i) : cnt xs b h i = 0 := by unfold cnt; rw [cuts_stop xs b h i hi]; rfl
theorem cnt_step (xs : List Int) (b h : Int) (i : Nat) (hi : i < xs.length) : cnt xs b h i = cnt xs b h (untilL xs i b h) + 1 := by
  unfold cnt; rw [cuts_step xs b h i hi]; rfl

/-- A stretch that a division may take as one group: within the budget, or a single element; or there is no budget. -/
def Light (xs : List Int) (b h : Int) (a z : Nat) : Prop := b ≤ 0 ∨ z ≤ a + 1 ∨ wt xs a z h ≤ b

theorem wt_mono (xs : List Int) (h : Int) (a : Nat) : ∀ (n m : Nat), n ≤ m → a + m ≤ xs.length → wt xs a (a + n) h ≤ wt xs a (a + m) h := by
  intro n m hnm hm
  induction m with
  | zero => rw [show n = 0 from by omega]; exact Int.le_refl _
  | succ m ih =>
    by_cases e : n = m + 1
    · rw [e]; exact Int.le_refl _
    · have := ih (by omega) (by omega)
      rw [← Nat.add_assoc a m 1, wt_succ xs a (a + m) h (by omega) (by omega)]
      omega

theorem wt_split (xs : List Int) (h : Int) (a k : Nat) (hk : a < xs.length) (hl : a + 1 + k ≤ xs.length) : wt xs a (a + 1 + k) h = max xs[a] 0 + wt xs (a + 1) (a + 1 + k) h := by
  induction k with
  | zero => rw [Nat.add_zero, wt_succ xs a a h (Nat.le_refl _) hk, wt_start, wt_start]; omega
  | succ k ih =>
    have := ih (by omega)
    rw [show a + 1 + (k + 1) = (a + 1 + k) + 1 from by omega, wt_succ xs a (a + 1 + k) h (by omega) (by omega), wt_succ xs (a + 1) (a + 1 + k) h (by omega) (by omega), this]
    omega

/-- A later begin weighs no more. -/
theorem wt_later (xs : List Int) (h : Int) (z : Nat) (hz : z ≤ xs.length) (a a' : Nat) (haa : a ≤ a') (haz : a' ≤ z) : wt xs a' z h ≤ wt xs a z h := by
  obtain ⟨d, rfl⟩ := Nat.exists_eq_add_of_le haa
  induction d generalizing a with
  | zero => exact Int.le_refl _
  | succ d ih =>
    obtain ⟨k, hk⟩ := Nat.exists_eq_add_of_le (show a + 1 ≤ z from by omega)
    have h1 := wt_split xs h a k (by omega) (by omega)
    rw [← hk] at h1
    have h2 := ih (a + 1) (by omega) (by omega)
    rw [show a + 1 + d = a + (d + 1) from by omega] at h2
    omega

/-- The greedy group that begins at or behind 'a' ends at or behind every light stretch's end. -/
theorem until_far (xs : List Int) (b h : Int) (a a' z : Nat) (hl : Light xs b h a z) (haa : a ≤ a') (ha' : a' < xs.length) (hz : z ≤ xs.length) : z ≤ untilL xs a' b h := by
  have hu := untilL_gt xs a' b h ha'
  by_cases hzu : z ≤ untilL xs a' b h
  · exact hzu
  · exfalso
    obtain ⟨hb, hw⟩ := until_full xs a' b h ha' (by omega)
    rcases hl with h1 | h1 | h1
    · omega
    · omega
    · have h2 := wt_later xs h z hz a a' haa (by omega)
      obtain ⟨k, hk⟩ := Nat.exists_eq_add_of_le (show a' ≤ untilL xs a' b h + 1 from by omega)
      obtain ⟨m, hm⟩ := Nat.exists_eq_add_of_le (show a' ≤ z from by omega)
      have h3 := wt_mono xs h a' k m (by omega) (by omega)
      rw [← hk, ← hm] at h3
      omega

/-- A division of the sizes from 'a' on, by the lengths of its groups. -/
inductive Div (xs : List Int) (b h : Int) : Nat → List Nat → Prop
  | nil : Div xs b h xs.length []
  | cons (a n : Nat) (r : List Nat) (h1 : 1 ≤ n) (h2 : a + n ≤ xs.length) (hl : Light xs b h a (a + n)) (hr : Div xs b h (a + n) r) : Div xs b h a (n :: r)

theorem div_fewest (xs : List Int) (b h : Int) : ∀ (r : List Nat) (a a' : Nat), Div xs b h a r → a ≤ a' → cnt xs b h a' ≤ r.length := by
  intro r
  induction r with
  | nil =>
    intro a a' hd haa
    cases hd
    rw [cnt_stop xs b h a' haa]
    exact Nat.le_refl _
  | cons n r ih =>
    intro a a' hd haa
    cases hd with
    | cons _ _ _ h1 h2 hl hr =>
      by_cases ha' : a' < xs.length
      · rw [cnt_step xs b h a' ha']
        have := ih (a + n) (untilL xs a' b h) hr (until_far xs b h a a' (a + n) hl haa ha' h2)
        simp; omega
      · rw [cnt_stop xs b h a' (by omega)]; omega

theorem packL_len (xs : List Int) (b h : Int) : (packL xs b h).length = cnt xs b h 0 := by simp [packL, cnt]

/-- Pack's own division is one. -/
theorem greedy_div (xs : List Int) (b h : Int) : ∀ (f a : Nat), xs.length - a ≤ f → a ≤ xs.length → ∃ r, Div xs b h a r ∧ r.length = cnt xs b h a
  | 0, a, hf, ha => by
    have : a = xs.length := by omega
    subst this
    exact ⟨[], .nil, by rw [cnt_stop xs b h _ (Nat.le_refl _)]; rfl⟩
  | f + 1, a, hf, ha => by
    by_cases hlt : a < xs.length
    · have h1 := untilL_gt xs a b h hlt
      have h2 := untilL_le xs a b h
      obtain ⟨r, hr, hl⟩ := greedy_div xs b h f (untilL xs a b h) (by omega) h2
      obtain ⟨n, hn⟩ := Nat.exists_eq_add_of_le (show a ≤ untilL xs a b h from by omega)
      refine ⟨n :: r, .cons a n r (by omega) (by omega) ?_ (by rw [← hn]; exact hr), by rw [cnt_step xs b h a hlt]; simp; omega⟩
      rw [← hn]
      by_cases hb : b ≤ 0
      · exact .inl hb
      · by_cases hs : untilL xs a b h = a + 1
        · exact .inr (.inl (by omega))
        · exact .inr (.inr (until_fits xs a b h hlt (by omega) hs))
    · have : a = xs.length := by omega
      subst this
      exact ⟨[], .nil, by rw [cnt_stop xs b h _ (Nat.le_refl _)]; rfl⟩

end PackL

/- How the greedy division hangs on the budget, the head, one size and the last size: plain lists and numbers. -/
import Derived.Test.YteoimmpbhkaacaaPlain3
namespace PackL

theorem Light.more {xs : List Int} {b b' h h' : Int} {a z : Nat} (hl : Light xs b h a z) (hb : 0 < b) (hbb : b ≤ b') (hh : h' ≤ h) : Light xs b' h' a z := by
  rcases hl with h1 | h1 | h1
  · omega
  · exact .inr (.inl h1)
  · refine .inr (.inr ?_)
    unfold wt at *
    omega

theorem Div.more {xs : List Int} {b b' h h' : Int} (hb : 0 < b) (hbb : b ≤ b') (hh : h' ≤ h) {a : Nat} {r : List Nat} (hd : Div xs b h a r) : Div xs b' h' a r := by
  induction hd with
  | nil => exact .nil
  | cons a n r h1 h2 hl _ ih => exact .cons a n r h1 h2 (hl.more hb hbb hh) ih

theorem packL_more (xs : List Int) (b b' h h' : Int) (hb : 0 < b) (hbb : b ≤ b') (hh : h' ≤ h) : (packL xs b' h').length ≤ (packL xs b h).length := by
  obtain ⟨r, hr, hl⟩ := greedy_div xs b h (xs.length - 0) 0 (Nat.le_refl _) (Nat.zero_le _)
  rw [packL_len, packL_len, ← hl]
  exact div_fewest xs b' h' r 0 0 (hr.more hb hbb hh) (Nat.le_refl _)

theorem wt_less (xs ys : List Int) (h : Int) (hl : ys.length = xs.length) (hp : ∀ i (h1 : i < ys.length) (h2 : i < xs.length), ys[i] ≤ xs[i]) (a : Nat) : ∀ n, a + n ≤ xs.length → wt ys a (a + n) h ≤ wt xs a (a + n) h
  | 0, _ => by rw [Nat.add_zero, wt_start, wt_start]; exact Int.le_refl _
  | n + 1, hn => by
    have h1 := wt_less xs ys h hl hp a n (by omega)
    have h2 := hp (a + n) (by omega) (by omega)
    rw [← Nat.add_assoc, wt_succ xs a (a + n) h (by omega) (by omega), wt_succ ys a (a + n) h (by omega) (by omega)]
    omega

theorem Div.less {xs ys : List Int} {b h : Int} (hl : ys.length = xs.length) (hp : ∀ i (h1 : i < ys.length) (h2 : i < xs.length), ys[i] ≤ xs[i]) {a : Nat} {r : List Nat} (hd : Div xs b h a r) : Div ys b h a r := by
  induction hd with
  | nil => rw [← hl]; exact .nil
  | cons a n r h1 h2 hlt _ ih =>
    refine .cons a n r h1 (by omega) ?_ ih
    rcases hlt with h3 | h3 | h3
    · exact .inl h3
    · exact .inr (.inl h3)
    · exact .inr (.inr (Int.le_trans (wt_less xs ys h hl hp a n h2) h3))

/-- One size replaced. -/
def put1 (xs : List Int) (k : Nat) (s : Int) : List Int := xs.take k ++ [s] ++ xs.drop (k + 1)

theorem put1_set (xs : List Int) (k : Nat) (s : Int) (hk : k < xs.length) : put1 xs k s = xs.set k s := by
  rw [List.set_eq_take_append_cons_drop, if_pos hk]; simp [put1]

theorem put1_length (xs : List Int) (k : Nat) (s : Int) (hk : k < xs.length) : (put1 xs k s).length = xs.length := by
  rw [put1_set xs k s hk, List.length_set]

theorem packL_less (xs : List Int) (b h : Int) (k : Nat) (s : Int) (hk : k < xs.length) (hs : s ≤ xs[k]) : (packL (put1 xs k s) b h).length ≤ (packL xs b h).length := by
  obtain ⟨r, hr, hl⟩ := greedy_div xs b h (xs.length - 0) 0 (Nat.le_refl _) (Nat.zero_le _)
  rw [packL_len, packL_len, ← hl, put1_set xs k s hk]
  refine div_fewest _ b h r 0 0 (hr.less List.length_set fun i h1 h2 => ?_) (Nat.le_refl _)
  rw [List.getElem_set]
  split
  · rename_i e; subst e; exact hs
  · exact Int.le_refl _

theorem scan_snoc (x : Int) : ∀ (l : List Int) (r : Int), scan l r = min (scan (l ++ [x]) r) l.length
  | [], r => by simp [scan]
  | y :: l, r => by
    rw [List.cons_append]
    unfold scan
    split
    · simp
    · rw [scan_snoc x l (r - max y 0)]
      simp only [List.length_cons]
      omega

theorem untilL_eq (xs : List Int) (a : Nat) (b h : Int) (ha : a < xs.length) : untilL xs a b h = if b ≤ 0 then xs.length else a + max (scan (xs.drop a) (b - max h 0)) 1 := by
  unfold untilL; rw [if_neg (by omega)]

theorem until_snoc (ys : List Int) (x : Int) (b h : Int) (a : Nat) (ha : a < ys.length) : untilL ys a b h = min (untilL (ys ++ [x]) a b h) ys.length := by
  have hl : (ys ++ [x]).length = ys.length + 1 := by simp
  rw [untilL_eq ys a b h ha, untilL_eq (ys ++ [x]) a b h (by omega), hl]
  by_cases hb : b ≤ 0
  · rw [if_pos hb, if_pos hb]; omega
  · rw [if_neg hb, if_neg hb]
    have hd : (ys ++ [x]).drop a = ys.drop a ++ [x] := List.drop_append_of_le_length (by omega)
    have hs := scan_snoc x (ys.drop a) (b - max h 0)
    rw [hd]
    rw [hs]
    simp only [List.length_drop]
    omega

theorem cuts_snoc (ys : List Int) (x : Int) (b h : Int) : ∀ (f a : Nat), ys.length - a ≤ f → a ≤ ys.length → ∃ pre last, cuts (ys ++ [x]) b h a = pre ++ [last] ∧ (cuts ys b h a = pre ∨ ∃ p, cuts ys b h a = pre ++ [p])
  | f, a, hf, ha => by
    have hl : (ys ++ [x]).length = ys.length + 1 := by simp
    by_cases hlt : a < ys.length
    · have h1 := untilL_gt (ys ++ [x]) a b h (by omega)
      have h2 := untilL_le (ys ++ [x]) a b h
      have h3 := until_snoc ys x b h a hlt
      rw [cuts_step (ys ++ [x]) b h a (by omega), cuts_step ys b h a hlt]
      by_cases hu : untilL (ys ++ [x]) a b h ≤ ys.length
      · rw [show untilL ys a b h = untilL (ys ++ [x]) a b h from by omega]
        match f, hf with
        | 0, hf => omega
        | f + 1, hf =>
          obtain ⟨pre, last, e1, e2⟩ := cuts_snoc ys x b h f (untilL (ys ++ [x]) a b h) (by omega) hu
          refine ⟨(a, untilL (ys ++ [x]) a b h) :: pre, last, by rw [e1]; rfl, ?_⟩
          rcases e2 with e2 | ⟨p, e2⟩
          · exact .inl (by rw [e2])
          · exact .inr ⟨p, by rw [e2]; rfl⟩
      · rw [cuts_stop (ys ++ [x]) b h _ (by omega), cuts_stop ys b h _ (by omega)]
        exact ⟨[], _, rfl, .inr ⟨_, rfl⟩⟩
    · have e : a = ys.length := by omega
      have h1 := untilL_gt (ys ++ [x]) a b h (by omega)
      have h2 := untilL_le (ys ++ [x]) a b h
      rw [cuts_step (ys ++ [x]) b h a (by omega), cuts_stop (ys ++ [x]) b h _ (by omega), cuts_stop ys b h a (by omega)]
      exact ⟨[], _, rfl, .inl rfl⟩

/-- The groups of the sizes without the last one are the same, but for the last of them. -/
theorem packL_init (xs : List Int) (b h : Int) (hne : 0 < xs.length) :
    0 < (packL xs b h).length ∧ ((packL (xs.take (xs.length - 1)) b h).length = (packL xs b h).length ∨ (packL (xs.take (xs.length - 1)) b h).length + 1 = (packL xs b h).length) ∧
    ∀ i, i + 1 < (packL xs b h).length → ∃ (h1 : i < (packL (xs.take (xs.length - 1)) b h).length) (h2 : i < (packL xs b h).length), (packL (xs.take (xs.length - 1)) b h)[i] = (packL xs b h)[i] := by
  have hx : xs = xs.take (xs.length - 1) ++ [xs[xs.length - 1]] := by
    have := List.take_succ_eq_append_getElem (show xs.length - 1 < xs.length from by omega)
    rw [← this, List.take_of_length_le (by omega)]
  generalize xs.take (xs.length - 1) = ys at *
  generalize xs[xs.length - 1] = x at *
  subst hx
  obtain ⟨pre, last, e1, e2⟩ := cuts_snoc ys x b h ys.length 0 (by omega) (by omega)
  have hp : packL (ys ++ [x]) b h = pre.map span ++ [span last] := by unfold packL; rw [e1]; simp
  rcases e2 with e2 | ⟨p, e2⟩
  · have hq : packL ys b h = pre.map span := by unfold packL; rw [e2]
    rw [hp, hq]
    refine ⟨by simp, .inr (by simp), fun i hi => ⟨by simp at hi ⊢; omega, by simp at hi ⊢; omega, ?_⟩⟩
    rw [List.getElem_append_left (by simp at hi ⊢; omega)]
  · have hq : packL ys b h = pre.map span ++ [span p] := by unfold packL; rw [e2]; simp
    rw [hp, hq]
    refine ⟨by simp, .inl (by simp), fun i hi => ⟨by simp at hi ⊢; omega, by simp at hi ⊢; omega, ?_⟩⟩
    rw [List.getElem_append_left (by simp at hi ⊢; omega), List.getElem_append_left (by simp at hi ⊢; omega)]

end PackL

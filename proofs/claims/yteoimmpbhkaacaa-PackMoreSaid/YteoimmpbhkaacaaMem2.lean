/- A slice of slices that a call builds for itself, row by row. -/
import Derived.Test.YteoimmpbhkaacaaMem
namespace Go.Proofs.Yteoimmpbhkaacaa
open Go.RowKit

abbrev iv (xs : List Int) : List Value := xs.map (Value.int .i64)

theorem ownsRow_below {w w' : World} {base : Nat} {e : TypeId} {size : Nat} {v : Value} {n : Nat} {xs : List Value} (h : w.ownsRow base e size v n xs) (hb : Below w.heap.size w w') : w'.ownsRow base e size v n xs := by
  refine ⟨h.1, ?_⟩
  rcases h.2 with hn | ⟨g, cap, cur, rfl, hb', hg, rest⟩
  · exact .inl hn
  · exact .inr ⟨g, cap, cur, rfl, hb', (hb.block g (Array.getElem?_eq_some_iff.1 hg).1).trans hg, rest⟩

theorem ownsRow_base {w : World} {base base' : Nat} {e : TypeId} {size : Nat} {v : Value} {n : Nat} {xs : List Value} (h : w.ownsRow base e size v n xs) (hb : base' ≤ base) : w.ownsRow base' e size v n xs := by
  refine ⟨h.1, ?_⟩
  rcases h.2 with hn | ⟨g, cap, cur, rfl, hb', rest⟩
  · exact .inl hn
  · exact .inr ⟨g, cap, cur, rfl, by omega, rest⟩

/-- Rows of different element types lie in different blocks. -/
theorem ownsRow_apart {w : World} {base base' : Nat} {e e' : TypeId} {size size' : Nat} {v v' : Value} {n n' : Nat} {xs xs' : List Value} (h : w.ownsRow base e size v n xs) (h' : w.ownsRow base' e' size' v' n' xs') (hne : e ≠ e') :
    v.ownBlock = none ∨ v.ownBlock ≠ v'.ownBlock := by
  rcases h.2 with ⟨rfl, _⟩ | ⟨g, cap, cur, rfl, _, hg, _⟩
  · exact .inl rfl
  · rcases h'.2 with ⟨rfl, _⟩ | ⟨g', cap', cur', rfl, _, hg', _⟩
    · exact .inr (by simp [Value.ownBlock])
    · refine .inr ?_
      intro e1
      simp [Value.ownBlock] at e1
      subst e1
      rw [hg] at hg'
      simp at hg'
      exact hne hg'.2

theorem ownsRow_slice {w : World} {base : Nat} {e : TypeId} {size : Nat} {v : Value} {n : Nat} {xs : List Value} (h : w.ownsRow base e size v n xs) : ∃ a cap, v = .slice a n cap := by
  rcases h.2 with ⟨rfl, h0⟩ | ⟨g, cap, cur, rfl, _⟩
  · exact ⟨none, 0, by rw [h0]⟩
  · exact ⟨_, cap, rfl⟩

theorem ownsRow_ints {w : World} {base : Nat} {e : TypeId} {v : Value} {xs : List Int} {n : Nat} (h : w.ownsRow base e 1 v n (iv xs)) : Ints w v xs := by
  have hn : n = xs.length := by have := h.1; simp at this; omega
  subst hn
  rcases h.2 with ⟨rfl, h0⟩ | ⟨g, cap, cur, rfl, _, hg, hc, _⟩
  · refine ⟨none, 0, by rw [h0], by omega, fun i hi => by omega⟩
  · refine ⟨_, cap, rfl, hc, fun i hi => ⟨g, 0, rfl, ?_⟩⟩
    rw [Nat.zero_add, h.cellAt i (by omega)]
    simp [List.getElem?_eq_getElem hi]

/-- v is a slice of rows of integers, all of it the call's own (blocks from B on); T: the rows' type, E: the integers' type. -/
def Built (T E : TypeId) (B : Nat) (w : World) (v : Value) (xss : List (List Int)) : Prop :=
  ∃ vs, w.ownsRow B T 1 v xss.length vs ∧ ∀ i (h : i < xss.length), ∃ u, vs[i]? = some u ∧ w.ownsRow B E 1 u xss[i].length (iv xss[i])

theorem Built.nil (T E : TypeId) (B : Nat) (w : World) : Built T E B w (.slice none 0 0) [] := ⟨[], World.ownsRow_nil _ _ _ _, fun i h => by simp at h⟩

theorem Built.below {T E : TypeId} {B : Nat} {w w' : World} {v : Value} {xss : List (List Int)} (h : Built T E B w v xss) (hb : Below w.heap.size w w') : Built T E B w' v xss := by
  obtain ⟨vs, h1, h2⟩ := h
  refine ⟨vs, ownsRow_below h1 hb, fun i hi => ?_⟩
  obtain ⟨u, hu, hr⟩ := h2 i hi
  exact ⟨u, hu, ownsRow_below hr hb⟩

theorem Built.push {T E : TypeId} {B : Nat} {w w' : World} {v v' u : Value} {xss : List (List Int)} {xs : List Int} {vs : List Value} {n : Nat} (hTE : E ≠ T) (h1 : w.ownsRow B T 1 v xss.length vs)
    (h2 : ∀ i (h : i < xss.length), ∃ u, vs[i]? = some u ∧ w.ownsRow B E 1 u xss[i].length (iv xss[i])) (hu : w.ownsRow B E 1 u n (iv xs))
    (h' : w'.ownsRow B T 1 v' (xss.length + 1) (vs ++ [u])) (hg : w.grownBy w' v.ownBlock) : Built T E B w' v' (xss ++ [xs]) := by
  have hn : n = xs.length := by have := hu.1; simp at this; omega
  subst hn
  refine ⟨vs ++ [u], by simpa using h', fun i hi => ?_⟩
  have hl : vs.length = xss.length := by have := h1.1; omega
  by_cases hlt : i < xss.length
  · obtain ⟨x, hx, hr⟩ := h2 i hlt
    refine ⟨x, by rw [List.getElem?_append_left (by omega)]; exact hx, ?_⟩
    rw [List.getElem_append_left hlt]
    exact hr.kept hg (ownsRow_apart hr h1 hTE)
  · have e : i = xss.length := by simp at hi; omega
    subst e
    refine ⟨u, by rw [List.getElem?_append_right (by omega), hl]; simp, ?_⟩
    simp only [List.getElem_append_right (Nat.le_refl _), Nat.sub_self, List.getElem_cons_zero]
    exact hu.kept hg (ownsRow_apart hu h1 hTE)

theorem Built.grid {T E : TypeId} {B : Nat} {w : World} {v : Value} {xss : List (List Int)} (h : Built T E B w v xss) : Grid w v xss := by
  obtain ⟨vs, h1, h2⟩ := h
  rcases h1.2 with ⟨rfl, h0⟩ | ⟨g, cap, cur, rfl, _, hg, hc, _⟩
  · exact ⟨none, 0, by rw [h0], by omega, fun i hi => by omega⟩
  · refine ⟨_, cap, rfl, hc, fun i hi => ?_⟩
    obtain ⟨u, hu, hr⟩ := h2 i hi
    refine ⟨g, 0, u, rfl, ?_, ownsRow_ints hr⟩
    rw [Nat.zero_add, h1.cellAt i (by omega)]
    exact hu

theorem Built.len {T E : TypeId} {B : Nat} {w : World} {v : Value} {xss : List (List Int)} (h : Built T E B w v xss) : ∃ a cap, v = .slice a xss.length cap := by
  obtain ⟨vs, h1, _⟩ := h
  rcases h1.2 with ⟨rfl, h0⟩ | ⟨g, cap, cur, rfl, _⟩
  · exact ⟨none, 0, by rw [h0]⟩
  · exact ⟨_, cap, rfl⟩

end Go.Proofs.Yteoimmpbhkaacaa

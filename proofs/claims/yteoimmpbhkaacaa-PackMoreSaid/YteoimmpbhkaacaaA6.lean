import Derived.Test.YteoimmpbhkaacaaA5
namespace Go.Proofs.Yteoimmpbhkaacaa
open Go.RowKit Go.Shelf PackL
attribute [local go_sem] Oper.semAt_some

theorem ownsRow_low {w w' : World} {base : Nat} {e : TypeId} {size : Nat} {v : Value} {n : Nat} {xs : List Value} (h : w.ownsRow base e size v n xs) {k : Nat} (hk : k < base) (hg : w.grownBy w' (some k)) : w'.ownsRow base e size v n xs := by
  refine h.kept hg ?_
  cases hv : v.ownBlock with
  | none => exact .inl rfl
  | some g => exact .inr (fun e => by cases e; have := (h.lt _ hv).1; omega)

theorem ownsRow_noncells {w w' : World} {base : Nat} {e : TypeId} {size : Nat} {v : Value} {n : Nat} {xs : List Value} (h : w.ownsRow base e size v n xs) {row : Option Nat} (hg : w.grownBy w' row)
    (hr : ∀ r, row = some r → ∃ o : Obj, w.heap[r]? = some o ∧ o.isCells = false) : w'.ownsRow base e size v n xs := by
  refine h.kept hg ?_
  rcases h.2 with ⟨rfl, _⟩ | ⟨g, cap, cur, rfl, _, hgb, _⟩
  · exact .inl rfl
  · refine .inr fun e' => ?_
    obtain ⟨o, ho, hc⟩ := hr g (by simpa [Value.ownBlock] using e'.symm)
    rw [hgb] at ho; cases ho; cases hc

theorem Built.low {T E : TypeId} {B : Nat} {w w' : World} {v : Value} {xss : List (List Int)} (h : Built T E B w v xss) {k : Nat} (hk : k < B) (hg : w.grownBy w' (some k)) : Built T E B w' v xss := by
  obtain ⟨vs, h1, h2⟩ := h
  refine ⟨vs, ownsRow_low h1 hk hg, fun i hi => ?_⟩
  obtain ⟨u, hu, hr⟩ := h2 i hi
  exact ⟨u, hu, ownsRow_low hr hk hg⟩

theorem Built.noncells {T E : TypeId} {B : Nat} {w w' : World} {v : Value} {xss : List (List Int)} (h : Built T E B w v xss) {row : Option Nat} (hg : w.grownBy w' row)
    (hr : ∀ r, row = some r → ∃ o : Obj, w.heap[r]? = some o ∧ o.isCells = false) : Built T E B w' v xss := by
  obtain ⟨vs, h1, h2⟩ := h
  refine ⟨vs, ownsRow_noncells h1 hg hr, fun i hi => ?_⟩
  obtain ⟨u, hu, hr'⟩ := h2 i hi
  exact ⟨u, hu, ownsRow_noncells hr' hg hr⟩

/-- The box s holds a slice that owns the rows f x. -/
theorem built_own {β : Type} (s t T E B : Nat) (f : β → List (List Int)) : Own (fun x W => ∃ v, Boxed W s t v ∧ Built T E B W v (f x)) := by
  rintro x X Y row ⟨v, hv, hb⟩ hg hrow
  refine ⟨v, hv.kept hg (fun e' => ?_), hb.noncells hg hrow⟩
  obtain ⟨o, ho, hc⟩ := hrow s e'.symm
  rw [show X.heap[s]? = _ from hv] at ho; cases ho; cases hc

/-- What 'l = append(l, group)' does, l in the box s. -/
theorem pack_step {s : Nat} {wl w1 : World} {v v' : Value} {k : Nat} {vs : List Value} {tmp : Obj} {xss : List (List Int)} (hv : Boxed wl s 25 v) (hrow : wl.ownsRow (s + 4) 22 1 v k vs)
    (hs : s + 4 ≤ wl.heap.size) (hgrow : (wl.alloc tmp).grownBy w1 v.ownBlock) (hB : Built 22 3 (s + 4) w1 v' xss) :
    Boxed w1 s 25 v ∧ Boxed (w1.setCell ⟨s, 0, none⟩ v') s 25 v' ∧ KeepsOthers wl (w1.setCell ⟨s, 0, none⟩ v') ∧ KpP s wl (w1.setCell ⟨s, 0, none⟩ v') ∧ Built 22 3 (s + 4) (w1.setCell ⟨s, 0, none⟩ v') v' xss := by
  have hne : ∀ k, k < s + 4 → some k ≠ v.ownBlock := fun k hk e => by have := (hrow.lt k e.symm).1; omega
  have hv1 : Boxed w1 s 25 v := (hv.alloc tmp).kept hgrow (hne s (by omega))
  have hlow : ∀ k, k < s + 4 → w1.heap[k]? = wl.heap[k]? := fun k hk => (hgrow.block k (by simp; omega) (hne k hk)).trans (Below.heap_alloc wl tmp k (by omega))
  refine ⟨hv1, hv1.set v', ?_, ⟨?_, fun k h1 h2 => ?_⟩, hB.low (by omega) (grownBy_setCell' w1 s v')⟩
  · refine ((KeepsOthers.alloc wl tmp).trans (KeepsOthers.of_grownBy hgrow fun j o ej hj => ?_)).trans (KeepsOthers.setCell _ _ _)
    rcases (hrow.alloc tmp).2 with ⟨rfl, _⟩ | ⟨g, cap, cur, rfl, _, hgb, _⟩
    · simp [Value.ownBlock] at ej
    · obtain rfl : g = j := by simpa [Value.ownBlock] using ej
      rw [hgb] at hj; cases hj; rfl
  · refine (((Below.refl s wl).alloc (by omega) tmp).grown hgrow (by simp; omega) fun j ej => ?_).setCell (p := ⟨s, 0, none⟩) (Nat.le_refl _) v'
    have := (hrow.lt j ej).1
    omega
  · rw [Below.heap_setCell _ _ _ _ (by simp only; omega)]
    exact hlow k h2

theorem kpp_b {s : Nat} {w : World} (hs : w.heap.size = s + 4) (W : World) (l : Nat) (o o' : Obj) (hl : w.heap.size ≤ l) (h : W.heap[l]? = some o) (h1 : o.isCells = false) (h2 : o.isWalk = false) : KpP s W (W.putObj l o') :=
  ⟨belowK_b (by omega) W l o o' hl h h1 h2, fun k _ hk => World.putObj_heap_other (by omega)⟩

theorem KpP.of_below {s : Nat} {A B : World} (h : Below (s + 4) A B) : KpP s A B := ⟨h.mono (by omega), fun k _ hk => h.block k hk⟩

theorem KeepsOthers.of_below {A B : World} (h : Below A.heap.size A B) : KeepsOthers A B := ⟨h.size, fun k _ ho _ => by
  rw [h.block k (Array.getElem?_eq_some_iff.1 ho).1]; exact ho⟩
end Go.Proofs.Yteoimmpbhkaacaa

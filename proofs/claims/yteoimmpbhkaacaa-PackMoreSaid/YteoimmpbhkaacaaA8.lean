import Derived.Test.YteoimmpbhkaacaaA7
import Derived.Test.YteoimmpbhkaacaaA2
import Derived.Test.YteoimmpbhkaacaaA3
namespace Go.Proofs.Yteoimmpbhkaacaa
open Go.RowKit PackL

theorem Ints.lit (w : World) (xs : List Int) (t : TypeId) : Ints (w.alloc (.cells (iv xs).toArray t)) (.slice (some ⟨w.heap.size, 0, none⟩) xs.length xs.length) xs := by
  refine Ints.mk rfl (Nat.le_refl _) fun i hi => ?_
  rw [World.cell?_alloc_new]
  simp [hi]

def RowsAre (w : World) : List Value → List (List Int) → Prop
  | [], [] => True
  | u :: us, x :: xs => Ints w u x ∧ RowsAre w us xs
  | _, _ => False

theorem RowsAre.get {w : World} : ∀ {us : List Value} {xss : List (List Int)}, RowsAre w us xss → ∀ i (h : i < xss.length), ∃ u, us[i]? = some u ∧ Ints w u xss[i]
  | [], [], _, i, h => by simp at h
  | u :: us, x :: xs, ⟨h1, h2⟩, i, h => by
    cases i with
    | zero => exact ⟨u, rfl, h1⟩
    | succ i => simpa using RowsAre.get h2 i (by simpa using h)

theorem below_alloc (w : World) (o : Obj) : Below w.heap.size w (w.alloc o) := (Below.refl _ w).alloc (Nat.le_refl _) o

theorem Grid.lit (w : World) (us : List Value) (xss : List (List Int)) (t : TypeId) (h : RowsAre w us xss) :
    Grid (w.alloc (.cells us.toArray t)) (.slice (some ⟨w.heap.size, 0, none⟩) xss.length xss.length) xss := by
  refine Grid.mk rfl (Nat.le_refl _) fun i hi => ?_
  obtain ⟨u, hu, hr⟩ := h.get i hi
  refine ⟨u, ?_, hr.below (below_alloc _ _)⟩
  rw [World.cell?_alloc_new]
  simpa using hu

theorem ex1 : packL [30, 30, 50, 10] 100 20 = [[0, 1], [2, 3]] := by decide
theorem ex2 : packL [30, 200, 30] 100 20 = [[0], [1], [2]] := by decide
theorem ex3 : packL [30, 200, 30] 0 20 = [[0, 1, 2]] := by decide
theorem ex4 : packL [] 100 20 = [] := by decide
theorem ex5 : aloneL 200 100 20 = true := by decide
theorem ex6 : aloneL 80 100 20 = false := by decide

theorem Ints.alloc {w : World} {v : Value} {xs : List Int} (h : Ints w v xs) (o : Obj) : Ints (w.alloc o) v xs := h.below (below_alloc _ _)
theorem Grid.alloc {w : World} {v : Value} {xss : List (List Int)} (h : Grid w v xss) (o : Obj) : Grid (w.alloc o) v xss := h.below (below_alloc _ _)

theorem same_yes (a b : Value) (xss : List (List Int)) (w : World) (ha : Grid w a xss) (hb : Grid w b xss) (hla : xss.length ≤ 4611686018427387904) (hra : ∀ r ∈ xss, r.length ≤ 4611686018427387904) :
    Calls Try.prog 8 #[a, b] w fun e w' => e = .returned (.bool true) ∧ Below w.heap.size w w' :=
  (same_any a b xss xss w ha hb hla hla hra hra).mono fun e w' ⟨h1, h2⟩ => ⟨by rw [h1]; simp, h2⟩

theorem lit2 (w : World) (x y : List Int) (n m : Nat) (hn : x.length = n) (hm : y.length = m) : RowsAre ((w.alloc (.cells (iv x).toArray 3)).alloc (.cells (iv y).toArray 3)) [.slice (some ⟨w.heap.size, 0, none⟩) n n, .slice (some ⟨w.heap.size + 1, 0, none⟩) m m] [x, y] := by
  subst hn hm
  refine ⟨(Ints.lit w x 3).alloc _, ?_, trivial⟩
  have := Ints.lit (w.alloc (.cells (iv x).toArray 3)) y 3
  simpa using this

theorem lit3 (w : World) (x y z : List Int) (n m k : Nat) (hn : x.length = n) (hm : y.length = m) (hk : z.length = k) : RowsAre (((w.alloc (.cells (iv x).toArray 3)).alloc (.cells (iv y).toArray 3)).alloc (.cells (iv z).toArray 3))
    [.slice (some ⟨w.heap.size, 0, none⟩) n n, .slice (some ⟨w.heap.size + 1, 0, none⟩) m m, .slice (some ⟨w.heap.size + 1 + 1, 0, none⟩) k k] [x, y, z] := by
  subst hn hm hk
  refine ⟨((Ints.lit w x 3).alloc _).alloc _, ?_, ?_, trivial⟩
  · have := (Ints.lit (w.alloc (.cells (iv x).toArray 3)) y 3).alloc (.cells (iv z).toArray 3)
    simpa using this
  · have := Ints.lit ((w.alloc (.cells (iv x).toArray 3)).alloc (.cells (iv y).toArray 3)) z 3
    simpa using this

set_option maxHeartbeats 2000000 in
theorem small_any (w : World) : Calls Try.prog 7 #[] w fun e w' => e = .returned (.bool true) ∧ Below w.heap.size w w' := by
  go_enter Try.func7, Try.ntmps7
  go_wp2_with fail
  refine (pack_any _ [30, 30, 50, 10] 100 20 _ (Ints.lit w [30, 30, 50, 10] 3) (by decide) (by decide) (by decide) (by decide)).mono ?_
  rintro e w1 ⟨v1, rfl, hg1, hb1⟩
  rw [ex1] at hg1
  replace hb1 := (below_alloc w _).trans (hb1.mono (by simp))
  go_wp2_with fail
  have q2 := Grid.lit _ _ _ 22 (lit2 w1 [0, 1] [2, 3] 2 2 rfl rfl)
  simp only [World.size_alloc] at q2
  refine (same_yes _ _ [[0, 1], [2, 3]] _ (((hg1.alloc _).alloc _).alloc _) q2 (by decide) (by decide)).mono ?_
  rintro e w2 ⟨rfl, hb2⟩
  replace hb2 := ((((hb1.alloc hb1.size _).alloc (by have := hb1.size; simp; omega) _).alloc (by have := hb1.size; simp; omega) _).trans (hb2.mono (by have := hb1.size; simp; omega)))
  clear q2 hg1 hb1
  go_wp2_with fail
  refine (pack_any _ [30, 200, 30] 100 20 _ (Ints.lit w2 [30, 200, 30] 3) (by decide) (by decide) (by decide) (by decide)).mono ?_
  rintro e w3 ⟨v3, rfl, hg3, hb3⟩
  rw [ex2] at hg3
  replace hb3 := (hb2.alloc hb2.size _).trans (hb3.mono (by have := hb2.size; simp; omega))
  clear hb2
  go_wp2_with fail
  have q4 := Grid.lit _ _ _ 22 (lit3 w3 [0] [1] [2] 1 1 1 rfl rfl rfl)
  simp only [World.size_alloc] at q4
  refine (same_yes _ _ [[0], [1], [2]] _ ((((hg3.alloc _).alloc _).alloc _).alloc _) q4 (by decide) (by decide)).mono ?_
  rintro e w4 ⟨rfl, hb4⟩
  replace hb4 := (((((hb3.alloc hb3.size _).alloc (by have := hb3.size; simp; omega) _).alloc (by have := hb3.size; simp; omega) _).alloc (by have := hb3.size; simp; omega) _).trans (hb4.mono (by have := hb3.size; simp; omega)))
  clear q4 hg3 hb3
  go_wp2_with fail
  refine (alone_any 200 100 20 _ (by decide) (by decide) (by decide) (by decide)).mono ?_
  rintro e w5 ⟨rfl, rfl⟩
  rw [ex5]
  go_wp2_with fail
  refine (alone_any 80 100 20 _ (by decide) (by decide) (by decide) (by decide)).mono ?_
  rintro e w5 ⟨rfl, rfl⟩
  rw [ex6]
  go_wp2_with fail
  refine (pack_any _ [30, 200, 30] 0 20 _ (Ints.lit w4 [30, 200, 30] 3) (by decide) (by decide) (by decide) (by decide)).mono ?_
  rintro e w5 ⟨v5, rfl, hg5, hb5⟩
  rw [ex3] at hg5
  replace hb5 := (hb4.alloc hb4.size _).trans (hb5.mono (by have := hb4.size; simp; omega))
  clear hb4
  go_wp2_with fail
  have q6 := Grid.lit _ _ _ 22 (show RowsAre _ [.slice (some ⟨w5.heap.size, 0, none⟩) 3 3] [[0, 1, 2]] from ⟨Ints.lit w5 [0, 1, 2] 3, trivial⟩)
  simp only [World.size_alloc] at q6
  refine (same_yes _ _ [[0, 1, 2]] _ ((hg5.alloc _).alloc _) q6 (by decide) (by decide)).mono ?_
  rintro e w6 ⟨rfl, hb6⟩
  replace hb6 := (((hb5.alloc hb5.size _).alloc (by have := hb5.size; simp; omega) _).trans (hb6.mono (by have := hb5.size; simp; omega)))
  clear q6 hg5 hb5
  go_wp2_with fail
  refine (pack_any _ [] 100 20 _ ⟨none, 0, rfl, Nat.le_refl _, fun i hi => by simp at hi⟩ (by decide) (by decide) (by decide) (by decide)).mono ?_
  rintro e w7 ⟨v7, rfl, hg7, hb7⟩
  rw [ex4] at hg7
  obtain ⟨a7, c7, rfl⟩ := hg7.len
  replace hb7 := hb6.trans (hb7.mono hb6.size)
  clear hb6 hg7
  go_wp2
  go_ret
  exact ⟨rfl, hb7⟩
end Go.Proofs.Yteoimmpbhkaacaa

/- What a slice reads as, in a world; what keeps the reading. -/
import Derived.Below
import Derived.WalkKit
import Derived.ProofKit
import Derived.OpenShut
import Derived.Lib.Hide
import Derived.Deep.QuietTactic
import Derived.BigQuiet
namespace Go.Proofs.Yteoimmpbhkaacaa
open Go.RowKit

theorem ret_int {k : IntKind} {a b : Int} (h : a = b) : Ending.returned (.int k a) = .returned (.int k b) := by rw [h]
theorem ret_bool {a b : Bool} (h : a = b) : Ending.returned (.bool a) = .returned (.bool b) := by rw [h]

/-- The slice v reads, in w, as the integers xs. -/
def Ints (w : World) (v : Value) (xs : List Int) : Prop :=
  ∃ a cap, v = .slice a xs.length cap ∧ xs.length ≤ cap ∧ ∀ i (h : i < xs.length), ∃ b off, a = some ⟨b, off, none⟩ ∧ w.cell? ⟨b, off + i, none⟩ = some (.int .i64 xs[i])

theorem Ints.cases {w : World} {v : Value} {xs : List Int} (h : Ints w v xs) :
    (xs = [] ∧ ∃ a cap, v = .slice a 0 cap) ∨
    (∃ b off cap, v = .slice (some ⟨b, off, none⟩) xs.length cap ∧ xs.length ≤ cap ∧ 0 < xs.length ∧ ∀ i (h : i < xs.length), w.cell? ⟨b, off + i, none⟩ = some (.int .i64 xs[i])) := by
  obtain ⟨a, cap, rfl, hc, hr⟩ := h
  cases xs with
  | nil => exact .inl ⟨rfl, a, cap, rfl⟩
  | cons x xs =>
    obtain ⟨b, off, rfl, _⟩ := hr 0 (by simp)
    refine .inr ⟨b, off, cap, rfl, hc, by simp, fun i hi => ?_⟩
    obtain ⟨b', off', e, h'⟩ := hr i hi
    cases e
    exact h'

theorem Ints.mk {w : World} {b off cap : Nat} {xs : List Int} {n : Nat} (hn : n = xs.length) (hcap : xs.length ≤ cap) (h : ∀ i (h : i < xs.length), w.cell? ⟨b, off + i, none⟩ = some (.int .i64 xs[i])) :
    Ints w (.slice (some ⟨b, off, none⟩) n cap) xs := by
  subst hn
  exact ⟨_, cap, rfl, hcap, fun i hi => ⟨b, off, rfl, h i hi⟩⟩

theorem cell_lt {w : World} {a : Addr} {v : Value} (h : w.cell? a = some v) : a.block < w.heap.size := by
  unfold World.cell? at h
  cases hb : w.heap[a.block]? with
  | none => simp [hb] at h
  | some o => exact (Array.getElem?_eq_some_iff.1 hb).1

theorem Ints.below {w w' : World} {v : Value} {xs : List Int} (h : Ints w v xs) (hb : Below w.heap.size w w') : Ints w' v xs := by
  obtain ⟨a, cap, rfl, hc, hr⟩ := h
  refine ⟨a, cap, rfl, hc, fun i hi => ?_⟩
  obtain ⟨b, off, e, hcell⟩ := hr i hi
  exact ⟨b, off, e, (hb.cell (p := ⟨b, off + i, none⟩) (cell_lt hcell)).trans hcell⟩

theorem Ints.take {w : World} {a : Option Addr} {n cap : Nat} {xs : List Int} (h : Ints w (.slice a n cap) xs) (k : Nat) (hk : k ≤ xs.length) : Ints w (.slice a k cap) (xs.take k) := by
  obtain ⟨a', cap', e, hc, hr⟩ := h
  cases e
  refine ⟨a, cap, by simp [hk], by simp; omega, fun i hi => ?_⟩
  obtain ⟨b, off, e, hcell⟩ := hr i (by simp at hi; omega)
  exact ⟨b, off, e, by rw [hcell]; simp⟩

/-- The slice v reads, in w, as the lists of integers xss. -/
def Grid (w : World) (v : Value) (xss : List (List Int)) : Prop :=
  ∃ a cap, v = .slice a xss.length cap ∧ xss.length ≤ cap ∧ ∀ i (h : i < xss.length), ∃ b off u, a = some ⟨b, off, none⟩ ∧ w.cell? ⟨b, off + i, none⟩ = some u ∧ Ints w u xss[i]

theorem Grid.cases {w : World} {v : Value} {xss : List (List Int)} (h : Grid w v xss) :
    (xss = [] ∧ ∃ a cap, v = .slice a 0 cap) ∨
    (∃ b off cap, v = .slice (some ⟨b, off, none⟩) xss.length cap ∧ xss.length ≤ cap ∧ 0 < xss.length ∧ ∀ i (h : i < xss.length), ∃ u, w.cell? ⟨b, off + i, none⟩ = some u ∧ Ints w u xss[i]) := by
  obtain ⟨a, cap, rfl, hc, hr⟩ := h
  cases xss with
  | nil => exact .inl ⟨rfl, a, cap, rfl⟩
  | cons x xs =>
    obtain ⟨b, off, u, rfl, _⟩ := hr 0 (by simp)
    refine .inr ⟨b, off, cap, rfl, hc, by simp, fun i hi => ?_⟩
    obtain ⟨b', off', u', e, h'⟩ := hr i hi
    cases e
    exact ⟨u', h'⟩

theorem Grid.mk {w : World} {b off cap : Nat} {xss : List (List Int)} {n : Nat} (hn : n = xss.length) (hcap : xss.length ≤ cap) (h : ∀ i (h : i < xss.length), ∃ u, w.cell? ⟨b, off + i, none⟩ = some u ∧ Ints w u xss[i]) :
    Grid w (.slice (some ⟨b, off, none⟩) n cap) xss := by
  subst hn
  refine ⟨_, cap, rfl, hcap, fun i hi => ?_⟩
  obtain ⟨u, hu⟩ := h i hi
  exact ⟨b, off, u, rfl, hu⟩

theorem Grid.below {w w' : World} {v : Value} {xss : List (List Int)} (h : Grid w v xss) (hb : Below w.heap.size w w') : Grid w' v xss := by
  obtain ⟨a, cap, rfl, hc, hr⟩ := h
  refine ⟨a, cap, rfl, hc, fun i hi => ?_⟩
  obtain ⟨b, off, u, e, hcell, hu⟩ := hr i hi
  exact ⟨b, off, u, e, (hb.cell (p := ⟨b, off + i, none⟩) (cell_lt hcell)).trans hcell, hu.below hb⟩

theorem Grid.row {w : World} {b off n cap : Nat} {xss : List (List Int)} (h : Grid w (.slice (some ⟨b, off, none⟩) n cap) xss) {k : Nat} (hk : k < xss.length) {r : List Int} (hr : xss[k] = r) :
    ∃ u, w.cell? ⟨b, off + k, none⟩ = some u ∧ Ints w u r := by
  obtain ⟨a, cap', e, _, h'⟩ := h
  obtain ⟨b', off', u, ea, hu⟩ := h' k hk
  cases e
  cases ea
  exact ⟨u, hu.1, hr ▸ hu.2⟩

theorem Ints.at {w : World} {v : Value} {xs : List Int} (h : Ints w v xs) {k : Nat} (hk : k < xs.length) :
    ∃ b off cap x, v = .slice (some ⟨b, off, none⟩) xs.length cap ∧ w.cell? ⟨b, off + k, none⟩ = some (.int .i64 x) ∧ xs[k] = x := by
  rcases h.cases with ⟨e, _⟩ | ⟨b, off, cap, e, _, _, hr⟩
  · subst e; simp at hk
  · exact ⟨b, off, cap, _, e, hr k hk, rfl⟩

theorem Grid.at {w : World} {v : Value} {xss : List (List Int)} (h : Grid w v xss) {k : Nat} (hk : k < xss.length) :
    ∃ b off cap, v = .slice (some ⟨b, off, none⟩) xss.length cap := by
  rcases h.cases with ⟨e, _⟩ | ⟨b, off, cap, e, _⟩
  · subst e; simp at hk
  · exact ⟨b, off, cap, e⟩

theorem below_drews {B : Nat} {a w : World} (h : Below B a w) (n : Nat) : Below B a (w.drewN n) := h.trans ⟨rfl, rfl, rfl, Nat.le_refl _, fun _ _ => rfl⟩

/-- Nothing but draws lies between the two worlds. -/
def Drew (w w' : World) : Prop := ∃ n, w' = w.drewN n
theorem Drew.refl (w : World) : Drew w w := ⟨0, rfl⟩
theorem Drew.more {w w' : World} (h : Drew w w') (n : Nat) : Drew w (w'.drewN n) := by
  obtain ⟨k, rfl⟩ := h
  refine ⟨k + n, ?_⟩
  simp [World.drewN, Nat.add_assoc]
theorem Drew.below {w w' : World} (h : Drew w w') : Below w.heap.size w w' := by
  obtain ⟨k, rfl⟩ := h
  exact below_drews (Below.refl _ _) k

theorem ints_of_row {w : World} {a : Option Addr} {len cap : Nat} {zs : List Int}
    (h : (a = none ∧ len = 0 ∧ cap = 0 ∧ zs = []) ∨ ∃ x, a = some x ∧ len ≤ cap ∧ cap ≤ maxLen ∧ zs.length = cap ∧ (∀ i, i < zs.length → w.cell? (x.add i) = some (.int .i64 (zs.getD i 0))) ∧ ∀ n ∈ zs, (Lit.int .i64 n).wf = true) :
    Ints w (.slice a len cap) (zs.take len) ∧ (zs.take len).length = len ∧ ∀ n ∈ zs.take len, -9223372036854775808 ≤ n ∧ n ≤ 9223372036854775807 := by
  rcases h with ⟨rfl, rfl, rfl, rfl⟩ | ⟨x, rfl, hl, _, hz, hc, hw⟩
  · exact ⟨⟨none, 0, rfl, Nat.le_refl _, fun i hi => by simp at hi⟩, rfl, fun n hn => by simp at hn⟩
  · have hlen : (zs.take len).length = len := by simp; omega
    refine ⟨⟨_, cap, by rw [hlen], by omega, fun i hi => ?_⟩, hlen, fun n hn => ?_⟩
    · obtain ⟨b, off, spot⟩ := x
      have hi' : i < zs.length := by omega
      have h0 := hc 0 (by omega)
      have hspot : spot = none := by simpa [Addr.add] using World.cell?_spot h0
      subst hspot
      refine ⟨b, off, rfl, ?_⟩
      have h1 := hc i hi'
      have ea : (⟨b, off, none⟩ : Addr).add i = ⟨b, off + i, none⟩ := by
        unfold Addr.add
        split
        · rename_i e; subst e; rfl
        · rfl
      rw [ea] at h1
      rw [h1]
      simp [hi']
    · exact bounds_i64 (hw n (List.mem_of_mem_take hn))

theorem Grid.len {w : World} {v : Value} {xss : List (List Int)} (h : Grid w v xss) : ∃ a cap, v = .slice a xss.length cap := by
  obtain ⟨a, cap, e, _⟩ := h; exact ⟨a, cap, e⟩

end Go.Proofs.Yteoimmpbhkaacaa

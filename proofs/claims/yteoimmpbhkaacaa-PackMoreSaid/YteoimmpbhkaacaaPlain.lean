/- Plain lists and numbers for layer 35 (pack): what the greedy division is; no program in sight. -/
namespace PackL

/-- How many of the first sizes fit into the room. -/
def scan : List Int → Int → Nat
  | [], _ => 0
  | x :: r, room => if room < max x 0 then 0 else scan r (room - max x 0) + 1

theorem scan_le : ∀ (xs : List Int) (room : Int), scan xs room ≤ xs.length
  | [], _ => by simp [scan]
  | x :: r, room => by
    unfold scan
    split
    · simp
    · have := scan_le r (room - max x 0); simp; omega

/-- The end of the longest light group that begins at 'i' (i ≤ length). -/
def untilL (xs : List Int) (i : Nat) (b h : Int) : Nat :=
  if xs.length ≤ i then xs.length
  else if b ≤ 0 then xs.length
  else i + max (scan (xs.drop i) (b - max h 0)) 1

theorem untilL_gt (xs : List Int) (i : Nat) (b h : Int) (hi : i < xs.length) : i < untilL xs i b h := by
  unfold untilL; split
  · omega
  · split <;> omega

theorem untilL_le (xs : List Int) (i : Nat) (b h : Int) : untilL xs i b h ≤ xs.length := by
  unfold untilL; split
  · omega
  · split
    · omega
    · have := scan_le (xs.drop i) (b - max h 0); simp at this; omega

def cutsGo (xs : List Int) (b h : Int) : Nat → Nat → List (Nat × Nat)
  | 0, _ => []
  | f + 1, i => if i < xs.length then (i, untilL xs i b h) :: cutsGo xs b h f (untilL xs i b h) else []

theorem cutsGo_eq (xs : List Int) (b h : Int) : ∀ (f g i : Nat), xs.length - i ≤ f → xs.length - i ≤ g → cutsGo xs b h f i = cutsGo xs b h g i
  | 0, 0, i, _, _ => rfl
  | 0, g + 1, i, h1, _ => by rw [cutsGo, cutsGo, if_neg (by omega)]
  | f + 1, 0, i, _, h2 => by rw [cutsGo, cutsGo, if_neg (by omega)]
  | f + 1, g + 1, i, h1, h2 => by
    rw [cutsGo, cutsGo]
    split
    · have := untilL_gt xs i b h (by assumption)
      rw [cutsGo_eq xs b h f g _ (by omega) (by omega)]
    · rfl

/-- The groups from 'i' on, as pairs of ends. -/
def cuts (xs : List Int) (b h : Int) (i : Nat) : List (Nat × Nat) := cutsGo xs b h (xs.length - i) i

theorem cuts_stop (xs : List Int) (b h : Int) (i : Nat) (hi : xs.length ≤ i) : cuts xs b h i = [] := by
  unfold cuts; rw [show xs.length - i = 0 from by omega]; rfl

theorem cuts_step (xs : List Int) (b h : Int) (i : Nat) (hi : i < xs.length) : cuts xs b h i = (i, untilL xs i b h) :: cuts xs b h (untilL xs i b h) := by
  have hu := untilL_gt xs i b h hi
  unfold cuts
  rw [show xs.length - i = (xs.length - i - 1) + 1 from by omega, cutsGo, if_pos hi]
  rw [cutsGo_eq xs b h (xs.length - i - 1) (xs.length - untilL xs i b h) _ (by omega) (by omega)]

/-- What the reference's inner loop knows: the group begins at 'i', 'k' is reached, 'r' is left. -/
def RefInv (xs : List Int) (b h : Int) (i k : Nat) (r : Int) : Prop :=
  b ≤ 0 ∨ (k = i ∧ r = b - max h 0) ∨ (k = i + 1 ∧ r = -1 ∧ scan (xs.drop i) (b - max h 0) = 0) ∨ (i < k ∧ 0 ≤ r ∧ scan (xs.drop i) (b - max h 0) + i = scan (xs.drop k) r + k)

theorem scan_drop (xs : List Int) (k : Nat) (r : Int) (hk : k < xs.length) : scan (xs.drop k) r = if r < max xs[k] 0 then 0 else scan (xs.drop (k + 1)) (r - max xs[k] 0) + 1 := by
  rw [List.drop_eq_getElem_cons hk]; rfl

theorem scan_end (xs : List Int) (k : Nat) (r : Int) (hk : xs.length ≤ k) : scan (xs.drop k) r = 0 := by
  rw [List.drop_eq_nil_of_le hk]; rfl

theorem RefInv.big {xs : List Int} {b h : Int} {i k : Nat} {r x : Int} (hI : RefInv xs b h i k r) (hk : k < xs.length) (hx : xs[k] = x) (hb : 0 < b) (hc : k = i ∨ max x 0 ≤ r) (hr : r < max x 0) : RefInv xs b h i (k + 1) (-1) := by
  rcases hI with h1 | ⟨rfl, rfl⟩ | ⟨_, h2, _⟩ | ⟨h1, _⟩
  · omega
  · refine .inr (.inr (.inl ⟨rfl, rfl, ?_⟩))
    rw [scan_drop xs k _ hk, hx, if_pos hr]
  · omega
  · omega

theorem RefInv.fits {xs : List Int} {b h : Int} {i k : Nat} {r x : Int} (hI : RefInv xs b h i k r) (hk : k < xs.length) (hx : xs[k] = x) (hr : max x 0 ≤ r) : RefInv xs b h i (k + 1) (r - max x 0) := by
  rcases hI with h1 | ⟨rfl, rfl⟩ | ⟨_, h2, _⟩ | ⟨h1, h2, h3⟩
  · exact .inl h1
  · refine .inr (.inr (.inr ⟨by omega, by omega, ?_⟩))
    rw [scan_drop xs k _ hk, hx, if_neg (by omega)]; omega
  · omega
  · refine .inr (.inr (.inr ⟨by omega, by omega, ?_⟩))
    rw [h3, scan_drop xs k _ hk, hx, if_neg (by omega)]; omega

theorem RefInv.stop {xs : List Int} {b h : Int} {i k : Nat} {r x : Int} (hI : RefInv xs b h i k r) (hi : i < xs.length) (hk : k < xs.length) (hx : xs[k] = x) (hb : 0 < b) (hki : k ≠ i) (hr : r < 0 ∨ r < max x 0) : k = untilL xs i b h := by
  unfold untilL
  rw [if_neg (by omega), if_neg (by omega)]
  rcases hI with h1 | ⟨h1, _⟩ | ⟨h1, h2, h3⟩ | ⟨h1, h2, h3⟩
  · omega
  · omega
  · omega
  · rw [scan_drop xs k _ hk, hx, if_pos (by omega)] at h3; omega

theorem RefInv.done {xs : List Int} {b h : Int} {i k : Nat} {r : Int} (hI : RefInv xs b h i k r) (hi : i < xs.length) (hk : k = xs.length) : k = untilL xs i b h := by
  unfold untilL
  rw [if_neg (by omega)]
  split
  · exact hk
  · rcases hI with h1 | ⟨h1, _⟩ | ⟨h1, h2, h3⟩ | ⟨h1, h2, h3⟩
    · omega
    · omega
    · omega
    · rw [scan_end xs k r (by omega)] at h3; omega

/-- The numbers from p.1 up to p.2. -/
def span (p : Nat × Nat) : List Int := (List.range' p.1 (p.2 - p.1)).map (fun n : Nat => (n : Int))

theorem span_length (p : Nat × Nat) : (span p).length = p.2 - p.1 := by simp [span]
theorem span_get (p : Nat × Nat) (i : Nat) (h : i < (span p).length) : (span p)[i] = ((p.1 + i : Nat) : Int) := by simp [span]

theorem span_succ (a k : Nat) (h : a ≤ k) : span (a, k) ++ [(k : Int)] = span (a, k + 1) := by
  unfold span
  simp only
  rw [show k + 1 - a = (k - a) + 1 from by omega, List.range'_1_concat, List.map_append]
  simp
  omega
theorem span_nil (a : Nat) : span (a, a) = [] := by simp [span]

/-- What Pack returns. -/
def packL (xs : List Int) (b h : Int) : List (List Int) := (cuts xs b h 0).map span

def aloneL (n b h : Int) : Bool := decide (0 < b) && decide (b - max h 0 < max n 0)

theorem cutsGo_facts (xs : List Int) (b h : Int) : ∀ (f i : Nat), (cutsGo xs b h f i).length ≤ xs.length - i ∧ ∀ p ∈ cutsGo xs b h f i, p.1 < p.2 ∧ p.2 ≤ xs.length
  | 0, i => by simp [cutsGo]
  | f + 1, i => by
    rw [cutsGo]
    split
    · have hlt : i < xs.length := by assumption
      have h1 := untilL_gt xs i b h hlt
      have h2 := untilL_le xs i b h
      obtain ⟨h3, h4⟩ := cutsGo_facts xs b h f (untilL xs i b h)
      refine ⟨by simp; omega, fun p hp => ?_⟩
      rcases List.mem_cons.1 hp with rfl | hp
      · exact ⟨h1, h2⟩
      · exact h4 p hp
    · simp

theorem packL_length (xs : List Int) (b h : Int) : (packL xs b h).length ≤ xs.length := by
  have := (cutsGo_facts xs b h (xs.length - 0) 0).1
  simpa [packL, cuts] using this

theorem packL_row (xs : List Int) (b h : Int) : ∀ r ∈ packL xs b h, r.length ≤ xs.length := by
  intro r hr
  obtain ⟨p, hp, rfl⟩ := List.mem_map.1 hr
  have := (cutsGo_facts xs b h (xs.length - 0) 0).2 p hp
  rw [span_length]
  omega

end PackL

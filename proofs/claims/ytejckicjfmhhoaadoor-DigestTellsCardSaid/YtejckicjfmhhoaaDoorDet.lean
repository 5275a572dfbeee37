/- A change within 32 bits changes the Crc; plain Lean. -/
import Derived.Test.YtejckicjfmhhoaaDoorLin
namespace Dg

def bitm (k : Nat) : UInt8 := UInt8.ofNat (2 ^ k)
theorem bitm_word (k : Nat) (h : k < 8) : w8 (bitm k) = wl 1 k := by
  have : ∀ d : Fin 8, w8 (bitm d.val) = wl 1 d.val := by decide
  exact this ⟨k, h⟩

def flip1 (l : List UInt8) (p : Nat) : List UInt8 := l.set (p / 8) (l.getD (p / 8) 0 ^^^ bitm (p % 8))
def flipN (f : Nat → Bool) (bit : Nat) (l : List UInt8) : Nat → List UInt8
  | 0 => l
  | k + 1 => if (f k && decide (bit + k < 8 * l.length)) = true then flip1 (flipN f bit l k) (bit + k) else flipN f bit l k

theorem flip1_length (l : List UInt8) (p : Nat) : (flip1 l p).length = l.length := by simp [flip1]
theorem flipN_length (f : Nat → Bool) (bit : Nat) (l : List UInt8) : ∀ k, (flipN f bit l k).length = l.length
  | 0 => rfl
  | k + 1 => by
    unfold flipN
    split
    · rw [flip1_length, flipN_length f bit l k]
    · exact flipN_length f bit l k

theorem crc_flip1 (r : Word) (l : List UInt8) (p : Nat) (h : p < 8 * l.length) : crcW r (flip1 l p) = wx (crcW r l) (iter cstep (8 * l.length - p) 1) := by
  have hq : p / 8 < l.length := by omega
  have hk : p % 8 < 8 := Nat.mod_lt _ (by omega)
  have hl : l = l.take (p / 8) ++ l[p / 8] :: l.drop (p / 8 + 1) := by
    rw [← List.drop_eq_getElem_cons hq, List.take_append_drop]
  have := crc_flip r (l.take (p / 8)) (l.drop (p / 8 + 1)) l[p / 8] (p % 8) hk (bitm (p % 8)) (bitm_word _ hk)
  rw [← hl] at this
  unfold flip1
  rw [List.set_eq_take_append_cons_drop, if_pos hq, List.getD_eq_getElem?_getD, List.getElem?_eq_getElem hq]
  show crcW r (l.take (p / 8) ++ (l[p / 8] ^^^ bitm (p % 8)) :: l.drop (p / 8 + 1)) = _
  rw [this, List.length_drop]
  congr 2
  omega

/-- The bits that are turned, as a word. -/
def turned (f : Nat → Bool) (bit n : Nat) : Nat → Word
  | 0 => 0
  | k + 1 => if (f k && decide (bit + k < 8 * n)) = true then wx (turned f bit n k) (wl 1 k) else turned f bit n k

theorem one_bit (k i : Nat) (h : i < 32) : (wl 1 k).getLsbD i = decide (i = k) := by
  rw [wl_bit _ _ _ h]
  by_cases h1 : i < k
  · simp [h1]; omega
  · by_cases h2 : i = k
    · subst h2; simp
    · have : i - k ≠ 0 := by omega
      simp [h1, h2, this]

theorem turned_bit (f : Nat → Bool) (bit n i : Nat) (hi : i < 32) : ∀ k, (turned f bit n k).getLsbD i = (decide (i < k) && (f i && decide (bit + i < 8 * n)))
  | 0 => by simp [turned]
  | k + 1 => by
    unfold turned
    by_cases hik : i = k
    · subst hik
      split
      · rename_i h
        rw [wx_bit, turned_bit f bit n i hi i, one_bit _ _ hi, h]
        simp
      · rename_i h
        rw [turned_bit f bit n i hi i]
        have : (f i && decide (bit + i < 8 * n)) = false := by simpa using h
        rw [this]; simp
    · have e : decide (i < k + 1) = decide (i < k) := by
        by_cases h : i < k
        · simp [h]; omega
        · simp [h]; omega
      rw [e]
      split
      · rw [wx_bit, turned_bit f bit n i hi k, one_bit _ _ hi, show decide (i = k) = false by simpa using hik, Bool.xor_false]
      · exact turned_bit f bit n i hi k

theorem crc_flipN (r : Word) (f : Nat → Bool) (bit : Nat) (l : List UInt8) : ∀ k, k ≤ 32 → crcW r (flipN f bit l k) = wx (crcW r l) (iter cstep (8 * l.length - bit) (turned f bit l.length k))
  | 0, _ => by
    have : ∀ m, iter cstep m 0 = 0 := by
      intro m
      induction m with
      | zero => rfl
      | succ m ih => show cstep (iter cstep m 0) = 0; rw [ih]; decide
    show crcW r l = wx (crcW r l) (iter cstep _ 0)
    rw [this, wx_zero]
  | k + 1, hk => by
    have ih := crc_flipN r f bit l k (by omega)
    unfold flipN turned
    split
    · rename_i h
      have hlt : bit + k < 8 * l.length := by simp at h; exact h.2
      rw [crc_flip1 _ _ _ (by rw [flipN_length]; exact hlt), ih, flipN_length, iter_lin, wx_assoc]
      congr 2
      rw [show 8 * l.length - bit = (8 * l.length - (bit + k)) + k by omega, iter_add, iter_shl 1 k (by
        intro i hi
        have : i ≠ 0 := by omega
        simp [this])]
    · exact ih

theorem flipN_none (f : Nat → Bool) (bit : Nat) (l : List UInt8) (h : ∀ i, i < 32 → (f i && decide (bit + i < 8 * l.length)) = false) : ∀ k, k ≤ 32 → flipN f bit l k = l
  | 0, _ => rfl
  | k + 1, hk => by
    unfold flipN
    rw [if_neg (by rw [h k (by omega)]; simp)]
    exact flipN_none f bit l h k (by omega)

theorem detects (f : Nat → Bool) (bit : Nat) (l : List UInt8) (h : crc l = crc (flipN f bit l 32)) : l = flipN f bit l 32 := by
  have h1 : crcW 4294967295#32 l = crcW 4294967295#32 (flipN f bit l 32) := by
    unfold crc at h
    have := congrArg (fun x => wx x 4294967295#32) h
    simpa only [wx_assoc, wx_self, wx_zero] using this
  rw [crc_flipN _ _ _ _ 32 (by omega)] at h1
  have h2 : iter cstep (8 * l.length - bit) (turned f bit l.length 32) = 0 := by
    have := congrArg (fun x => wx (crcW 4294967295#32 l) x) h1
    simp only [← wx_assoc, wx_self] at this
    rw [wx_comm, wx_zero] at this
    exact this.symm
  have h3 := iter_zero _ h2
  refine (flipN_none f bit l ?_ 32 (by omega)).symm
  intro i hi
  have := turned_bit f bit l.length i hi 32
  rw [h3] at this
  simpa [hi] using this.symm

end Dg

/- The reference's Base32 in plain Lean: five bits at a time. -/
import Derived.Test.YtejckicjfmhhoaaDoorRefA
namespace Dg

/-- The number of k bits from a place on. -/
def num (l : List UInt8) (a : Nat) : Nat → Nat
  | 0 => 0
  | k + 1 => 2 * num l a k + bitN l (a + k)
theorem bitN_le (l : List UInt8) (a : Nat) : bitN l a ≤ 1 := by unfold bitN; omega
theorem num_lt (l : List UInt8) (a : Nat) : ∀ k, num l a k < 2 ^ k
  | 0 => by simp [num]
  | k + 1 => by
    have h1 := num_lt l a k
    have h2 := bitN_le l (a + k)
    rw [num, Nat.pow_succ]
    omega
def rb32 (l : List UInt8) (j : Nat) : List UInt8 := (List.range j).map fun i => b32T.getD (num l (5 * i) 5) 0
theorem rb32_snoc (l : List UInt8) (j : Nat) : rb32 l (j + 1) = rb32 l j ++ [b32T.getD (num l (5 * j) 5) 0] := by
  simp [rb32, List.range_succ]

theorem flat_get {α : Type} (f : α → List Bool) (k : Nat) (hf : ∀ a, (f a).length = k) : ∀ (L : List α) (i j : Nat), j < k → (L.flatMap f)[k * i + j]? = L[i]?.bind fun a => (f a)[j]?
  | [], i, j, _ => by simp
  | a :: L, 0, j, hj => by
    rw [List.flatMap_cons, List.getElem?_append_left (by rw [hf]; omega)]
    simp
  | a :: L, i + 1, j, hj => by
    rw [List.flatMap_cons, List.getElem?_append_right (by rw [hf, Nat.mul_succ]; omega), hf, show k * (i + 1) + j - k = k * i + j by rw [Nat.mul_succ]; omega, flat_get f k hf L i j hj]
    simp

theorem bits8_get (c : UInt8) (j : Nat) (h : j < 8) : (bits8 c)[j]? = some (decide (c.toNat / 2 ^ (7 - j) % 2 = 1)) := by
  unfold bits8 low
  rw [List.getElem?_map, List.getElem?_range h]
  show some ((w8 c).getLsbD (8 - 1 - j)) = _
  rw [show 8 - 1 - j = 7 - j by omega, BitVec.getLsbD, show (w8 c).toNat = c.toNat from ?_, Nat.testBit_eq_decide_div_mod_eq]
  unfold w8
  rw [BitVec.toNat_setWidth]
  have := c.toNat_lt
  show c.toNat % 2 ^ 32 = c.toNat
  omega

theorem bitN_bits (s : List UInt8) (z a : Nat) : bitN s a = (((s.flatMap bits8 ++ List.replicate z false)[a]?).getD false).toNat := by
  have hl : (s.flatMap bits8).length = 8 * s.length := flat_length bits8 8 bits8_length s
  by_cases h : a < 8 * s.length
  · rw [List.getElem?_append_left (by rw [hl]; exact h)]
    have hd : a = 8 * (a / 8) + a % 8 := by omega
    rw [show (s.flatMap bits8)[a]? = (s.flatMap bits8)[8 * (a / 8) + a % 8]? by rw [← hd], flat_get bits8 8 bits8_length s _ _ (by omega)]
    rw [List.getElem?_eq_getElem (show a / 8 < s.length by omega)]
    simp only [Option.bind_some]
    rw [bits8_get _ _ (by omega)]
    unfold bitN
    rw [List.getD_eq_getElem?_getD, List.getElem?_eq_getElem (show a / 8 < s.length by omega)]
    simp only [Option.getD_some]
    have : s[a / 8].toNat / 2 ^ (7 - a % 8) % 2 < 2 := Nat.mod_lt _ (by omega)
    by_cases h1 : s[a / 8].toNat / 2 ^ (7 - a % 8) % 2 = 1
    · rw [h1]; rfl
    · simp only [h1, decide_false, Bool.toNat_false]; omega
  · rw [bitN_out (by omega), List.getElem?_append_right (by omega), List.getElem?_replicate]
    split <;> rfl

theorem num5 (v : Nat) (h : v < 32) : 2 * (2 * (2 * (2 * (2 * 0 + ((low (BitVec.ofNat 32 v) 5)[0]?.getD false).toNat) + ((low (BitVec.ofNat 32 v) 5)[1]?.getD false).toNat) + ((low (BitVec.ofNat 32 v) 5)[2]?.getD false).toNat) + ((low (BitVec.ofNat 32 v) 5)[3]?.getD false).toNat) + ((low (BitVec.ofNat 32 v) 5)[4]?.getD false).toNat = v := by
  have : ∀ d : Fin 32, 2 * (2 * (2 * (2 * (2 * 0 + ((low (BitVec.ofNat 32 d.val) 5)[0]?.getD false).toNat) + ((low (BitVec.ofNat 32 d.val) 5)[1]?.getD false).toNat) + ((low (BitVec.ofNat 32 d.val) 5)[2]?.getD false).toNat) + ((low (BitVec.ofNat 32 d.val) 5)[3]?.getD false).toNat) + ((low (BitVec.ofNat 32 d.val) 5)[4]?.getD false).toNat = d.val := by decide
  exact this ⟨v, h⟩

/-- The reference's way is the program's way. -/
theorem rb32_law (s : List UInt8) (j : Nat) (h0 : 8 * s.length ≤ 5 * j) (h1 : 5 * j < 8 * s.length + 5) : rb32 s j = b32L s := by
  obtain ⟨⟨z, hz, hb⟩, ha⟩ := b32_bits s
  have hJ : (b32L s).length = j := by rw [law_C]; omega
  apply List.ext_getElem
  · simp [rb32, hJ]
  · intro i hi1 hi2
    have hij : i < j := by omega
    simp only [rb32, List.getElem_map, List.getElem_range]
    obtain ⟨v, hv⟩ := Option.isSome_iff_exists.1 (ha _ (List.getElem_mem hi2))
    have hv32 : v < 32 := place_lt _ _ _ hv
    have hbit : ∀ k, k < 5 → bitN s (5 * i + k) = (((low (BitVec.ofNat 32 v) 5)[k]?).getD false).toNat := by
      intro k hk
      rw [bitN_bits s z, ← hb, flat_get cbits 5 cbits_length _ _ _ hk, List.getElem?_eq_getElem hi2]
      simp only [Option.bind_some]
      unfold cbits
      rw [hv]
      rfl
    have hn : num s (5 * i) 5 = v := by
      rw [← num5 v hv32]
      simp only [num]
      rw [hbit 0 (by omega), hbit 1 (by omega), hbit 2 (by omega), hbit 3 (by omega), hbit 4 (by omega)]
    rw [hn]
    exact place_get _ _ _ hv

/-- The reference keeps only the bits that are still to be written. -/
theorem keep5 (b : Word) (v n : Nat) (hv : v < 32) (hn : n < 8) : 32 * (b.toNat % 2 ^ n) + v = (wo (wl b 5) (BitVec.ofNat 32 v)).toNat % 2 ^ (n + 5) := by
  have h1 : (wo (wl b 5) (BitVec.ofNat 32 v)).toNat = (b.toNat * 32) % 2 ^ 32 + v := by
    unfold wo wl
    rw [BitVec.toNat_or, BitVec.toNat_shiftLeft, BitVec.toNat_ofNat, Nat.mod_eq_of_lt (show v < 2 ^ 32 by omega), Nat.shiftLeft_eq]
    have h := Nat.two_pow_add_eq_or_of_lt (i := 5) (b := v) hv (b.toNat % 2 ^ 27)
    have e : b.toNat * 2 ^ 5 % 2 ^ 32 = 2 ^ 5 * (b.toNat % 2 ^ 27) := by omega
    rw [e, ← h]
  rw [h1]
  rcases (show n = 0 ∨ n = 1 ∨ n = 2 ∨ n = 3 ∨ n = 4 ∨ n = 5 ∨ n = 6 ∨ n = 7 by omega) with e | e | e | e | e | e | e | e <;> subst e <;> simp only [Nat.reduceAdd, Nat.reducePow] <;> omega
theorem keep_lo (b : Word) (r : Nat) : b.toNat % 2 ^ (r + 8) / 2 ^ r = (lo (wr b r)).toNat := by
  unfold lo wr
  show _ = ((b >>> r).setWidth 8).toNat
  rw [BitVec.toNat_setWidth, BitVec.toNat_ushiftRight, Nat.shiftRight_eq_div_pow, Nat.pow_add, Nat.mod_mul_right_div_self]
theorem keep_rest (b : Word) (r : Nat) : b.toNat % 2 ^ (r + 8) % 2 ^ r = b.toNat % 2 ^ r :=
  Nat.mod_mod_of_dvd _ (Nat.pow_dvd_pow 2 (by omega))
theorem place_val (c : UInt8) : place b32T c = if 97 ≤ c.toNat ∧ c.toNat ≤ 122 then some (c.toNat - 97) else if 50 ≤ c.toNat ∧ c.toNat ≤ 55 then some (c.toNat - 50 + 26) else none := by
  have hv : ∀ d : Fin 256, place b32T (UInt8.ofNat d.val) = if 97 ≤ d.val ∧ d.val ≤ 122 then some (d.val - 97) else if 50 ≤ d.val ∧ d.val ≤ 55 then some (d.val - 50 + 26) else none := by decide +kernel
  have := hv ⟨c.toNat, c.toNat_lt⟩
  simpa only [UInt8.ofNat_toNat] using this
theorem dig_val (x : Nat) (h : x < 32) : ((b32T.getD x 0).toNat : Int) = if x < 26 then 97 + (x : Int) else 50 + (x : Int) - 26 := by
  have hv : ∀ d : Fin 32, (((b32T.getD d.val 0).toNat : Nat) : Int) = if d.val < 26 then 97 + (d.val : Int) else 50 + (d.val : Int) - 26 := by decide
  exact hv ⟨x, h⟩
end Dg

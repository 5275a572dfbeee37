/- The Crc is linear, and its step loses nothing; plain Lean. -/
import Derived.Test.YtejckicjfmhhoaaDoorCrc
namespace Dg

theorem iter_add {α : Type} (f : α → α) (n : Nat) (a : α) : ∀ m, iter f (m + n) a = iter f m (iter f n a)
  | 0 => by rw [Nat.zero_add]; rfl
  | m + 1 => by
    rw [Nat.add_right_comm]
    show f (iter f (m + n) a) = f (iter f m (iter f n a))
    rw [iter_add f n a m]

theorem odd_iff (r : Word) : (wa r 1#32 = 1) ↔ r.getLsbD 0 = true := by
  unfold wa
  constructor
  · intro h
    have := congrArg (fun x => x.getLsbD 0) h
    simpa using this
  · intro h
    apply BitVec.eq_of_getLsbD_eq
    intro i hi
    rw [BitVec.getLsbD_and]
    by_cases h0 : i = 0
    · subst h0; simp [h]
    · simp [h0]

theorem cstep_bit (r : Word) (i : Nat) : (cstep r).getLsbD i = ((r.getLsbD (i + 1)) ^^ (r.getLsbD 0 && poly.getLsbD i)) := by
  unfold cstep
  by_cases h : r.getLsbD 0 = true
  · rw [if_pos ((odd_iff r).2 h)]
    unfold wx wr
    rw [BitVec.getLsbD_xor, BitVec.getLsbD_ushiftRight, h, Nat.add_comm]
    simp
  · rw [if_neg (mt (odd_iff r).1 h)]
    unfold wr
    have h0 : r.getLsbD 0 = false := by simpa using h
    rw [BitVec.getLsbD_ushiftRight, Nat.add_comm, h0]
    simp

theorem wx_bit (a b : Word) (i : Nat) : (wx a b).getLsbD i = (a.getLsbD i ^^ b.getLsbD i) := BitVec.getLsbD_xor

theorem word_ext {a b : Word} (h : ∀ i, i < 32 → a.getLsbD i = b.getLsbD i) : a = b := BitVec.eq_of_getLsbD_eq h

theorem cstep_lin (a b : Word) : cstep (wx a b) = wx (cstep a) (cstep b) := by
  apply word_ext
  intro i _
  rw [wx_bit, cstep_bit, cstep_bit, cstep_bit, wx_bit, wx_bit]
  cases a.getLsbD (i + 1) <;> cases b.getLsbD (i + 1) <;> cases a.getLsbD 0 <;> cases b.getLsbD 0 <;> cases poly.getLsbD i <;> rfl

theorem iter_lin (a b : Word) : ∀ n, iter cstep n (wx a b) = wx (iter cstep n a) (iter cstep n b)
  | 0 => rfl
  | n + 1 => by
    show cstep (iter cstep n (wx a b)) = wx (cstep (iter cstep n a)) (cstep (iter cstep n b))
    rw [iter_lin a b n, cstep_lin]

theorem wx_self (a : Word) : wx a a = 0 := by unfold wx; simp
theorem wx_zero (a : Word) : wx a 0 = a := by unfold wx; simp
theorem wx_assoc (a b c : Word) : wx (wx a b) c = wx a (wx b c) := by unfold wx; rw [BitVec.xor_assoc]
theorem wx_comm (a b : Word) : wx a b = wx b a := by unfold wx; rw [BitVec.xor_comm]

theorem cstep_zero {a : Word} (h : cstep a = 0) : a = 0 := by
  have hb : ∀ i, (a.getLsbD (i + 1) ^^ (a.getLsbD 0 && poly.getLsbD i)) = false := fun i => by rw [← cstep_bit, h]; simp
  have h0 : a.getLsbD 0 = false := by
    have h31 := hb 31
    rw [show a.getLsbD (31 + 1) = false from BitVec.getLsbD_of_ge _ _ (by omega), show poly.getLsbD 31 = true by decide +kernel] at h31
    simpa using h31
  apply word_ext
  intro i _
  rw [show (0 : Word).getLsbD i = false by simp]
  cases i with
  | zero => exact h0
  | succ i => have := hb i; rw [h0] at this; simpa using this
theorem iter_zero {a : Word} : ∀ n, iter cstep n a = 0 → a = 0
  | 0, h => h
  | n + 1, h => iter_zero n (cstep_zero h)

theorem wl_bit (x : Word) (k i : Nat) (h : i < 32) : (wl x k).getLsbD i = (!decide (i < k) && x.getLsbD (i - k)) := by
  unfold wl
  rw [BitVec.getLsbD_shiftLeft]
  simp [h]

/-- A word that is moved left comes back. -/
theorem iter_shl (x : Word) : ∀ k, (∀ i, 32 ≤ i + k → x.getLsbD i = false) → iter cstep k (wl x k) = x
  | 0, _ => by
    show wl x 0 = x
    unfold wl; simp
  | k + 1, h => by
    have e : cstep (wl x (k + 1)) = wl x k := by
      apply word_ext
      intro i hi
      rw [cstep_bit, wl_bit _ _ 0 (by omega), wl_bit _ _ i hi]
      simp only [Nat.zero_lt_succ, decide_true, Bool.not_true, Bool.false_and, Bool.xor_false]
      by_cases h32 : i + 1 < 32
      · rw [wl_bit _ _ _ h32, show i + 1 - (k + 1) = i - k by omega]
        congr 2
        simp
      · rw [BitVec.getLsbD_of_ge _ _ (by omega), show x.getLsbD (i - k) = false from h _ (by omega)]
        simp
    have := iter_add cstep 1 (wl x (k + 1)) k
    rw [this]
    show iter cstep k (cstep (wl x (k + 1))) = x
    rw [e]
    exact iter_shl x k fun i hi => h i (by omega)

theorem w8_xor (a b : UInt8) : w8 (a ^^^ b) = wx (w8 a) (w8 b) := by
  unfold w8 wx
  rw [UInt8.toBitVec_xor, BitVec.setWidth_xor]

theorem w8_high' (c : UInt8) : ∀ i, 8 ≤ i → (w8 c).getLsbD i = false := by
  intro i hi
  unfold w8
  rw [BitVec.getLsbD_setWidth]
  have : c.toBitVec.getLsbD i = false := BitVec.getLsbD_of_ge _ _ hi
  rw [this, Bool.and_false]

theorem cbyte_lin (x y : Word) (c d : UInt8) : cbyte (wx x y) (c ^^^ d) = wx (cbyte x c) (cbyte y d) := by
  unfold cbyte
  rw [← iter_lin, w8_xor]
  congr 1
  unfold wx
  ac_rfl

theorem cbyte_left (x y : Word) (c : UInt8) : cbyte (wx x y) c = wx (cbyte x c) (iter cstep 8 y) := by
  unfold cbyte
  rw [← iter_lin]
  congr 1
  unfold wx
  ac_rfl

theorem crcW_left (x y : Word) : ∀ s, crcW (wx x y) s = wx (crcW x s) (iter cstep (8 * s.length) y)
  | [] => rfl
  | c :: s => by
    show crcW (cbyte (wx x y) c) s = wx (crcW (cbyte x c) s) _
    rw [cbyte_left, crcW_left _ _ s, List.length_cons, Nat.mul_succ, iter_add]

/-- Bytes, one by one, by exclusive or. -/
def zx (a b : List UInt8) : List UInt8 := List.zipWith (· ^^^ ·) a b
theorem crcW_lin : ∀ (a b : List UInt8) (x y : Word), a.length = b.length → crcW (wx x y) (zx a b) = wx (crcW x a) (crcW y b)
  | [], [], _, _, _ => rfl
  | [], _ :: _, _, _, h => by simp at h
  | _ :: _, [], _, _, h => by simp at h
  | c :: a, d :: b, x, y, h => by
    show crcW (cbyte (wx x y) (c ^^^ d)) (zx a b) = _
    rw [cbyte_lin, crcW_lin a b _ _ (by simpa using h)]
    rfl

theorem crc_three (a b c : List UInt8) (h1 : a.length = b.length) (h2 : b.length = c.length) : crc (zx (zx a b) c) = wx (wx (crc a) (crc b)) (crc c) := by
  have e : (4294967295#32 : Word) = wx (wx 4294967295#32 4294967295#32) 4294967295#32 := by decide
  unfold crc
  conv => lhs; rw [e]
  have hl : (zx a b).length = c.length := by simp [zx]; omega
  have : crcW (wx (wx 4294967295#32 4294967295#32) 4294967295#32) (zx (zx a b) c) = wx (wx (crcW 4294967295#32 a) (crcW 4294967295#32 b)) (crcW 4294967295#32 c) := by
    rw [crcW_lin _ _ _ _ hl, crcW_lin _ _ _ _ h1]
  rw [this]
  generalize crcW 4294967295#32 a = A
  generalize crcW 4294967295#32 b = B
  generalize crcW 4294967295#32 c = C
  unfold wx
  ac_rfl

theorem crcW_append (r : Word) (a b : List UInt8) : crcW r (a ++ b) = crcW (crcW r a) b := List.foldl_append ..

/-- The four bytes of a word, the lowest first. -/
def le4 (v : Word) : List UInt8 := [lo v, lo (wr v 8), lo (wr v 16), lo (wr v 24)]

theorem lo_bit (b : Word) (i : Nat) (h : i < 8) : (w8 (lo b)).getLsbD i = b.getLsbD i := by
  unfold w8 lo
  rw [BitVec.getLsbD_setWidth]
  show (_ && (b.setWidth 8).getLsbD i) = _
  rw [BitVec.getLsbD_setWidth]
  simp [show i < 32 by omega, h]

theorem le4_word (v : Word) : wx (wx (wx (w8 (lo v)) (wl (w8 (lo (wr v 8))) 8)) (wl (w8 (lo (wr v 16))) 16)) (wl (w8 (lo (wr v 24))) 24) = v := by
  have hr : ∀ k i, (wr v k).getLsbD i = v.getLsbD (k + i) := fun k i => by unfold wr; rw [BitVec.getLsbD_ushiftRight]
  apply word_ext
  intro i hi
  rw [wx_bit, wx_bit, wx_bit, wl_bit _ _ _ hi, wl_bit _ _ _ hi, wl_bit _ _ _ hi]
  rcases (show i < 8 ∨ (8 ≤ i ∧ i < 16) ∨ (16 ≤ i ∧ i < 24) ∨ 24 ≤ i by omega) with h | ⟨h, h'⟩ | ⟨h, h'⟩ | h
  · rw [lo_bit _ _ h]
    simp [h, show i < 16 by omega, show i < 24 by omega]
  · rw [w8_high' _ i h, lo_bit _ (i - 8) (by omega), hr]
    simp [show ¬ i < 8 by omega, show i < 16 by omega, show i < 24 by omega, show 8 + (i - 8) = i by omega]
  · rw [w8_high' _ i (by omega), w8_high' _ (i - 8) (by omega), lo_bit _ (i - 16) (by omega), hr]
    simp [show ¬ i < 16 by omega, show i < 24 by omega, show 16 + (i - 16) = i by omega]
  · rw [w8_high' _ i (by omega), w8_high' _ (i - 8) (by omega), w8_high' _ (i - 16) (by omega), lo_bit _ (i - 24) (by omega), hr]
    simp [show ¬ i < 24 by omega, show 24 + (i - 24) = i by omega]

theorem byte_back (c : UInt8) (k : Nat) (h : k ≤ 24) : iter cstep k (wl (w8 c) k) = w8 c := iter_shl _ _ fun i hi => w8_high' c i (by omega)

theorem crcW_le4 (r v : Word) : crcW r (le4 v) = iter cstep 32 (wx r v) := by
  conv => rhs; rw [← le4_word v]
  show cbyte (cbyte (cbyte (cbyte r (lo v)) (lo (wr v 8))) (lo (wr v 16))) (lo (wr v 24)) = _
  generalize lo v = b0
  generalize lo (wr v 8) = b1
  generalize lo (wr v 16) = b2
  generalize lo (wr v 24) = b3
  have e1 : cbyte (cbyte r b0) b1 = iter cstep 16 (wx (wx r (w8 b0)) (wl (w8 b1) 8)) := by
    rw [show (16 : Nat) = 8 + 8 from rfl, iter_add, iter_lin, byte_back b1 8 (by omega)]
    rfl
  have e2 : cbyte (cbyte (cbyte r b0) b1) b2 = iter cstep 24 (wx (wx (wx r (w8 b0)) (wl (w8 b1) 8)) (wl (w8 b2) 16)) := by
    rw [show (24 : Nat) = 8 + 16 from rfl, iter_add, iter_lin, byte_back b2 16 (by omega), ← e1]
    rfl
  have e3 : cbyte (cbyte (cbyte (cbyte r b0) b1) b2) b3 = iter cstep 32 (wx (wx (wx (wx r (w8 b0)) (wl (w8 b1) 8)) (wl (w8 b2) 16)) (wl (w8 b3) 24)) := by
    rw [show (32 : Nat) = 8 + 24 from rfl, iter_add, iter_lin, byte_back b3 24 (by omega), ← e2]
    rfl
  rw [e3, wx_assoc, wx_assoc, wx_assoc, wx_assoc, wx_assoc]

theorem crc_residue (s : List UInt8) : crc (s ++ le4 (crc s)) = 558161692#32 := by
  unfold crc
  rw [crcW_append, crcW_le4, ← wx_assoc, wx_self, wx_comm 0, wx_zero]
  decide +kernel

/-- One bit more. -/
theorem crc_flip (r : Word) (a b : List UInt8) (c : UInt8) (k : Nat) (hk : k < 8) (m : UInt8) (hm : w8 m = wl 1 k) : crcW r (a ++ (c ^^^ m) :: b) = wx (crcW r (a ++ c :: b)) (iter cstep (8 * b.length + 8 - k) 1) := by
  have h1 : cbyte (crcW r a) (c ^^^ m) = wx (cbyte (crcW r a) c) (iter cstep (8 - k) 1) := by
    have := cbyte_lin (crcW r a) 0 c m
    rw [wx_zero] at this
    rw [this]
    congr 1
    unfold cbyte
    rw [wx_comm, wx_zero, hm, show 8 = (8 - k) + k by omega, iter_add, iter_shl 1 k (by
      intro i hi
      have : i ≠ 0 := by omega
      simp [this])]
    congr 1
    omega
  rw [crcW_append, crcW_append]
  show crcW (cbyte (crcW r a) (c ^^^ m)) b = wx (crcW (cbyte (crcW r a) c) b) _
  rw [h1, crcW_left, ← iter_add]
  congr 2
  omega

end Dg

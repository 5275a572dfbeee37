/- The tail of a padded text; plain Lean. -/
import Derived.Test.YtejckicjfmhhoaaDoorPlain
namespace Dg

theorem blocks_add (m : Nat) : ∀ (k : Nat) (st : St) (bs : List UInt8), blocks (k + m) st bs = blocks m (blocks k st bs) (bs.drop (64 * k))
  | 0, st, bs => by simp [blocks]
  | k + 1, st, bs => by
    rw [show k + 1 + m = (k + m) + 1 from by omega, blocks, blocks_add m k]
    show _ = blocks m (blocks k (block st (bs.take 64)) (bs.drop 64)) _
    rw [List.drop_drop]
    congr 2
    omega

theorem blocks_append (b : List UInt8) : ∀ (k : Nat) (st : St) (a : List UInt8), 64 * k ≤ a.length → blocks k st (a ++ b) = blocks k st a
  | 0, _, _, _ => rfl
  | k + 1, st, a, h => by
    rw [blocks, blocks, List.take_append_of_le_length (by omega), List.drop_append_of_le_length (by omega), blocks_append b k _ _ (by simp; omega)]

theorem pad_tail {s r : List UInt8} {k : Nat} (hr : r = s.drop (64 * k)) (hk : 64 * k + r.length = s.length) :
    pad s = s.take (64 * k) ++ (r ++ 128 :: (List.replicate ((119 - r.length % 64) % 64) 0 ++ size8 (8 * s.length))) := by
  unfold pad
  rw [show s.length % 64 = r.length % 64 by omega, ← List.append_assoc, hr, List.take_append_drop]

theorem sum_close {s r l : List UInt8} {k m : Nat} {S : St} (hr : r = s.drop (64 * k)) (hk : 64 * k + r.length = s.length)
    (hl : l = r ++ 128 :: (List.replicate ((119 - r.length % 64) % 64) 0 ++ size8 (8 * s.length))) (hm : 64 * m = l.length) (hS : blocks m (blocks k init s) l = S) :
    sumL s = S.list.flatMap bytes4 := by
  have hp := pad_tail hr hk
  rw [← hl] at hp
  have ht : (s.take (64 * k)).length = 64 * k := by simp; omega
  have hn : (pad s).length / 64 = k + m := by rw [hp, List.length_append, ht]; omega
  have hb : blocks k init (pad s) = blocks k init s := by
    rw [hp, blocks_append _ _ _ _ (by omega)]
    conv => rhs; rw [← List.take_append_drop (64 * k) s]
    rw [blocks_append _ _ _ _ (by omega)]
  have hd : (pad s).drop (64 * k) = l := by rw [hp, List.drop_append_of_le_length (by omega), List.drop_of_length_le (by omega), List.nil_append]
  unfold sumL
  rw [hn, blocks_add, hb, hd, hS]

end Dg

/- What Base32 returns. -/
import Derived.Test.YtejckicjfmhhoaaDoorUnhex
namespace Dg

def b32T : List UInt8 := [97, 98, 99, 100, 101, 102, 103, 104, 105, 106, 107, 108, 109, 110, 111, 112, 113, 114, 115, 116, 117, 118, 119, 120, 121, 122, 50, 51, 52, 53, 54, 55]
/-- The digit of the lowest five bits. -/
def dig (b : Word) : UInt8 := b32T.getD (wa b 31#32).toNat 0
def flush (b : Word) : Nat → List UInt8
  | 0 => []
  | n + 1 => if n + 1 < 5 then [] else dig (wr b (n + 1 - 5)) :: flush b (n + 1 - 5)

structure Bst where
  (l : List UInt8) (b : Word) (n : Nat)
def bstep (s : Bst) (c : UInt8) : Bst := ⟨s.l ++ flush (wo (wl s.b 8) (w8 c)) (s.n + 8), wo (wl s.b 8) (w8 c), (s.n + 8) % 5⟩
def brun (s : List UInt8) : Bst := s.foldl bstep ⟨[], 0, 0⟩
def b32L (s : List UInt8) : List UInt8 := if (brun s).n = 0 then (brun s).l else (brun s).l ++ [dig (wl (brun s).b (5 - (brun s).n))]

theorem flush_lt {b : Word} {n : Nat} (h : n < 5) : flush b n = [] := by
  cases n with
  | zero => unfold flush; rfl
  | succ n => rw [flush, if_pos h]
theorem flush_ge {b : Word} {n : Nat} (h : 5 ≤ n) : flush b n = dig (wr b (n - 5)) :: flush b (n - 5) := by
  cases n with
  | zero => omega
  | succ n => rw [flush, if_neg (by omega)]
theorem brun_next {s : List UInt8} {i : Nat} {c : UInt8} (hc : s[i]? = some c) : brun (s.take (i + 1)) = bstep (brun (s.take i)) c := by
  unfold brun
  rw [List.take_add_one, hc]
  simp

end Dg
namespace Go.Proofs.YtejckicjfmhhoaaDoor
open Go.RowKit Dg

theorem shl8' (a : Word) : wn a * 256 % 4294967296 = wn (wl a 8) := shl_w a 8 256 rfl
theorem bits_a31 (a : Word) : bits .and .u32 (wn a) 31 = wn (wa a 31#32) := bits_a a 31
theorem shrn (a : Word) (k : Nat) : wn a / 2 ^ k = wn (wr a k) := shr_w a k _ rfl
theorem shln (a : Word) (k : Nat) : wn a * 2 ^ k % 4294967296 = wn (wl a k) := shl_w a k _ rfl
attribute [local go_sem] bits_x bits_a bits_o bits_not add_w shl8' bits_a31 shrn shln w8_w

theorem wa31 (x : Word) : (wa x 31#32).toNat < 32 := by
  unfold wa
  rw [BitVec.toNat_and]
  exact Nat.lt_of_le_of_lt Nat.and_le_right (by decide)
theorem wn31 (x : Word) : wn (wa x 31#32) < 32 := by have := wa31 x; unfold wn; omega
theorem tab_dig (x : Word) (h' : (wn (wa x 31#32)).toNat < (ByteArray.mk #[97, 98, 99, 100, 101, 102, 103, 104, 105, 106, 107, 108, 109, 110, 111, 112, 113, 114, 115, 116, 117, 118, 119, 120, 121, 122, 50, 51, 52, 53, 54, 55]).size) :
    (ByteArray.mk #[97, 98, 99, 100, 101, 102, 103, 104, 105, 106, 107, 108, 109, 110, 111, 112, 113, 114, 115, 116, 117, 118, 119, 120, 121, 122, 50, 51, 52, 53, 54, 55])[(wn (wa x 31#32)).toNat]'h' = dig x := by
  have e : (wn (wa x 31#32)).toNat = (wa x 31#32).toNat := by unfold wn; omega
  unfold dig
  rw [List.getD_eq_getElem?_getD, List.getElem?_eq_getElem (by have := wa31 x; simpa [b32T] using this)]
  simp only [e]
  rfl

theorem flush_own {w : World} {base : Nat} {v : Value} {k : Nat} {l R : List UInt8} {b : Word} {m : Nat} {x : UInt8} (hx : x = dig (wr b (m - 5))) (hm : 5 ≤ m) (H : Hid (l ++ flush b m = R))
    (h : w.ownsRow base 5 1 v k (bc l ++ [.int .u8 (x.toNat : Int)])) : w.ownsRow base 5 1 v k (bc (l ++ [x])) ∧ Hid ((l ++ [x]) ++ flush b (m - 5) = R) := by
  refine ⟨by simpa [bc] using h, ?_⟩
  show _ = _
  rw [← H.out, flush_ge hm, hx]
  simp

theorem dig_own {w : World} {base : Nat} {v : Value} {k : Nat} {l : List UInt8} {b : Word} {x : UInt8} (hx : x = dig b) (h : w.ownsRow base 5 1 v k (bc l ++ [.int .u8 (x.toNat : Int)])) : w.ownsRow base 5 1 v k (bc (l ++ [dig b])) := by
  subst hx
  simpa [bc] using h

set_option maxRecDepth 100000 in
theorem base_any (s : ByteArray) (w : World) (hs : s.size ≤ 1000000) :
    Calls Tryd.prog 13 #[.string s] w fun e w' => e = .returned (.string ⟨(b32L s.data.toList).toArray⟩) ∧ Below w.heap.size w w' := by
  go_enter Tryd.func13, Tryd.ntmps13
  obtain ⟨i5, hi5, hz5, hs5, hb5⟩ := info_parts Tryd.info5
  have HI := Lib.hid (And.intro hi5 (And.intro hz5 (And.intro hs5 hb5)))
  go_wp2_with (at_make; refine wpList_make_own _ rfl _ _ 30 rfl w.heap.size 5 i5 (.int .u8 0) 1 Tryd.underlying30 hi5 hz5 hs5 .i64 .i64 ((s.size : Int) / 5 * 8 + 8) (s.size / 5 * 8 + 8) rfl rfl (by omega) (by rw [hb5]; omega) (by unfold maxLen; omega) (Nat.le_refl _) ?_; intro w2 hown2 hgrow2; have hb2 := (Below.refl w.heap.size w).grown hgrow2 (Nat.le_refl _) (fun k e => by cases e))
  go_loopw [3, 4, 5, 15] (fun v lv nv sh wr => ∃ (i n k : Nat) (b : Word) (l : List UInt8), i ≤ s.size ∧ lv = .int .u32 (wn b) ∧ nv = .int .i64 (n : Int) ∧ n < 5 ∧ k ≤ 2 * i ∧ sh = .int .i64 (i : Int) ∧ wr.ownsRow w.heap.size 5 1 v k (bc l) ∧ Hid (brun (s.data.toList.take i) = ⟨l, b, n⟩) ∧ Below w.heap.size w wr)
    (fun _ _ _ sh _ => (s.size - intOf sh).toNat)
  case atStart => exact ⟨0, 0, 0, 0, [], by omega, rfl, rfl, by omega, by omega, rfl, hown2, by rfl, hb2⟩
  case round =>
    clear hown2 hb2 hgrow2
    obtain ⟨i, n, k, b, l, hi, rfl, rfl, hn, hk, rfl, hown, HL, hb⟩ := hrel
    obtain ⟨w1, rfl⟩ : ∃ w1 : World, w1 = wr := ⟨_, rfl⟩
    by_cases hlt : i < s.size
    · have hc : s.data.toList[i]? = some s[i] := by
        rw [List.getElem?_eq_getElem (by simpa using hlt)]
        rfl
      have hk5 : k ≤ 1999998 := by omega
      have hn12 : n + 8 ≤ 12 := by omega
      go_wp2_with fail
      simp only [shl8', w8_w]
      go_loopw [3, 5] (fun v nv wr => ∃ (m k' : Nat) (l' : List UInt8), nv = .int .i64 (m : Int) ∧ m ≤ 12 ∧ Hid (m % 5 = (n + 8) % 5) ∧ k' + m / 5 ≤ k + 2 ∧ wr.ownsRow w.heap.size 5 1 v k' (bc l') ∧ Hid (l' ++ flush (wo (wl b 8) (w8 s[i])) m = l ++ flush (wo (wl b 8) (w8 s[i])) (n + 8)) ∧ Below w.heap.size w wr)
        (fun _ nv _ => (intOf nv).toNat)
      case atStart => exact ⟨n + 8, k, l, rfl, by omega, by rfl, by omega, hown, by rfl, hb⟩
      case round =>
        clear hown hb
        obtain ⟨m, k', l', rfl, hm, HM, hk', hown, HF, hb⟩ := hrel
        obtain ⟨w4, rfl⟩ : ∃ w4 : World, w4 = wr := ⟨_, rfl⟩
        by_cases h5 : 5 ≤ m
        · have hbz := hb.size
          obtain ⟨hi5, hz5, hs5, hb5⟩ := HI.out
          obtain ⟨m', rfl⟩ : ∃ m' : Nat, m = m' + 5 := ⟨m - 5, by omega⟩
          have hd0 := wn_nonneg (wa (Dg.wr (wo (wl b 8) (w8 s[i])) m') 31#32)
          have hd1 := wn31 (Dg.wr (wo (wl b 8) (w8 s[i])) m')
          go_wp2_with (at_builtin; refine wpList_append_own _ rfl _ _ 30 rfl w.heap.size 5 i5 (.int .u8 0) 1 1 Tryd.underlying30 hi5 hz5 hs5 hb5 rfl (by decide) _ _ _ rfl (hown.alloc _) ⟨w4.heap.size, 0, none⟩ 1 1 [_] rfl rfl (cell_one_new _ _ _) (by simp [Value.oneCell']) (by unfold maxLen; omega) (by omega) (by simp; omega) ?_; intro v' w5 hown' hgrow' _)
          have hb' := (hb.alloc hbz _).grown hgrow' (by simp; omega) (fun k e => (hown.lt k e).1)
          obtain ⟨hown3, HF3⟩ := flush_own (tab_dig _ _) (by omega) HF hown'
          refine ⟨⟨m', k' + 1, _, by go_num, by omega, by show _ = _; have := HM.out; omega, by omega, hown3, HF3, hb'⟩, by simp [intOf] <;> omega⟩
        · have hmz : m = (n + 8) % 5 := by have := HM.out; omega
          have HL3 : Hid (brun (s.data.toList.take (i + 1)) = ⟨l', wo (wl b 8) (w8 s[i]), m⟩) := by
            show _ = _
            rw [brun_next hc, HL.out, bstep, ← HF.out, flush_lt (by omega), List.append_nil, hmz]
          clear HF HM hmz
          go_wp2_with fail
          refine ⟨⟨i + 1, m, k', _, l', by omega, by go_num, by go_num, by omega, by omega, by go_num, hown, HL3, hb⟩, by simp [intOf]; omega⟩
    · have hfin : brun s.data.toList = ⟨l, b, n⟩ := by
        have := HL.out
        rwa [List.take_of_length_le (by simpa using hlt)] at this
      have HFIN := Lib.hid hfin
      clear hfin
      by_cases hn0 : n = 0
      · have hcv := own_str hown
        subst hn0
        go_wp2_with fail
        refine bodyPost_ret (v := .string ⟨l.toArray⟩) (by simp [results, Tryd.f13, go_sem]) rfl ⟨?_, hb⟩
        rw [b32L, HFIN.out]
        rfl
      · have hn1 : 0 < n := by omega
        have hbz := hb.size
        obtain ⟨hi5, hz5, hs5, hb5⟩ := HI.out
        have hd0 := wn_nonneg (wa (wl b (5 - n)) 31#32)
        have hd1 := wn31 (wl b (5 - n))
        go_wp2_with (at_builtin; refine wpList_append_own _ rfl _ _ 30 rfl w.heap.size 5 i5 (.int .u8 0) 1 1 Tryd.underlying30 hi5 hz5 hs5 hb5 rfl (by decide) _ _ _ rfl (hown.alloc _) ⟨w1.heap.size, 0, none⟩ 1 1 [_] rfl rfl (cell_one_new _ _ _) (by simp [Value.oneCell']) (by unfold maxLen; omega) (by omega) (by simp; omega) ?_; intro v' w5 hown' hgrow' _; have hcv := own_str (dig_own (tab_dig _ _) hown'))
        refine bodyPost_ret (v := .string ⟨(l ++ [dig (wl b (5 - n))]).toArray⟩) (by simp [results, Tryd.f13, go_sem]) rfl ⟨?_, (hb.alloc hbz _).grown hgrow' (by simp; omega) (fun k e => (hown.lt k e).1)⟩
        rw [b32L, HFIN.out, if_neg hn0]
end Go.Proofs.YtejckicjfmhhoaaDoor

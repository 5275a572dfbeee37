/- What Unbase32 returns. -/
import Derived.Test.YtejckicjfmhhoaaDoorBase
namespace Dg

structure Ust where
  (l : List UInt8) (b : Word) (n : Nat)
def ustep (s : Ust) (v : Nat) : Ust :=
  if s.n + 5 < 8 then ⟨s.l, wo (wl s.b 5) (BitVec.ofNat 32 v), s.n + 5⟩
  else ⟨s.l ++ [lo (wr (wo (wl s.b 5) (BitVec.ofNat 32 v)) (s.n + 5 - 8))], wo (wl s.b 5) (BitVec.ofNat 32 v), s.n + 5 - 8⟩
def udec : Ust → List UInt8 → Option (List UInt8)
  | s, [] => some s.l
  | s, c :: r => match place b32T c with
    | none => none
    | some v => udec (ustep s v) r
def unb32L (s : List UInt8) : Option (List UInt8) := match udec ⟨[], 0, 0⟩ s with
  | none => none
  | some l => if b32L l = s then some l else none

end Dg
namespace Go.Proofs.YtejckicjfmhhoaaDoor
open Go.RowKit Dg

theorem shl5 (a : Word) : wn a * 32 % 4294967296 = wn (wl a 5) := shl_w a 5 32 rfl
attribute [local go_sem] bits_x bits_a bits_o bits_not add_w shl5 shrn lo_w

theorem b32ix_any (c : UInt8) (w : World) : Calls Tryd.prog 28 #[.string ⟨#[97, 98, 99, 100, 101, 102, 103, 104, 105, 106, 107, 108, 109, 110, 111, 112, 113, 114, 115, 116, 117, 118, 119, 120, 121, 122, 50, 51, 52, 53, 54, 55]⟩, .int .u8 (c.toNat : Int)] w fun e w' => e = .returned (.int .i64 (ixI (place b32T c))) ∧ w' = w := index_any _ c w

theorem unb_next {s : List UInt8} {st : Ust} {i : Nat} {a : UInt8} {o : Option (List UInt8)} (H : Hid (o = udec st (s.drop i))) (h1 : s[i]? = some a) :
    o = match place b32T a with
    | none => none
    | some v => udec (ustep st v) (s.drop (i + 1)) := by
  obtain ⟨h1', rfl⟩ := List.getElem?_eq_some_iff.1 h1
  rw [H.out, List.drop_eq_getElem_cons h1', udec]

theorem or_lit (a : Word) (x : Nat) (h : x < 32) : bits .or .u32 (wn a) (x : Int) = wn (wo a (BitVec.ofNat 32 x)) := by
  rw [wn_lit x (by omega), bits_o]

set_option maxRecDepth 100000 in
theorem unb_any (s : ByteArray) (w : World) (hs : s.size ≤ 1000000) :
    Calls Tryd.prog 14 #[.string s] w fun e w' => e = .returned (maybe (unb32L s.data.toList)) ∧ Below w.heap.size w w' := by
  go_enter Tryd.func14, Tryd.ntmps14
  obtain ⟨i5, hi5, hz5, hs5, hb5⟩ := info_parts Tryd.info5
  have HI := Lib.hid (And.intro hi5 (And.intro hz5 (And.intro hs5 hb5)))
  go_wp2_with (at_make; refine wpList_make_own _ rfl _ _ 30 rfl w.heap.size 5 i5 (.int .u8 0) 1 Tryd.underlying30 hi5 hz5 hs5 .i64 .i64 ((s.size : Int) / 8 * 5 + 5) (s.size / 8 * 5 + 5) rfl rfl (by omega) (by rw [hb5]; omega) (by unfold maxLen; omega) (Nat.le_refl _) ?_; intro w2 hown2 hgrow2; have hb2 := (Below.refl w.heap.size w).grown hgrow2 (Nat.le_refl _) (fun k e => by cases e))
  go_loopw [4, 5, 6, 18] (fun v lv nv sh wr => ∃ (i n k : Nat) (b : Word) (l : List UInt8), i ≤ s.size ∧ lv = .int .u32 (wn b) ∧ nv = .int .i64 (n : Int) ∧ n < 8 ∧ k ≤ i ∧ sh = .int .i64 (i : Int) ∧ wr.ownsRow w.heap.size 5 1 v k (bc l) ∧ Hid (udec ⟨[], 0, 0⟩ s.data.toList = udec ⟨l, b, n⟩ (s.data.toList.drop i)) ∧ Below w.heap.size w wr)
    (fun _ _ _ sh _ => (s.size - intOf sh).toNat)
  case atStart => exact ⟨0, 0, 0, 0, [], by omega, rfl, rfl, by omega, by omega, rfl, hown2, by rfl, hb2⟩
  case round =>
    clear hown2 hb2 hgrow2
    obtain ⟨i, n, k, b, l, hi, rfl, rfl, hn, hk, rfl, hown, HL, hb⟩ := hrel
    obtain ⟨w1, rfl⟩ : ∃ w1 : World, w1 = wr := ⟨_, rfl⟩
    by_cases hlt : i < s.size
    · have hc : s.data.toList[i]? = some s[i] := by
        rw [List.getElem?_eq_getElem (by simpa using hlt)]
        rfl
      have HN := unb_next HL hc
      have hbz := hb.size
      obtain ⟨hi5, hz5, hs5, hb5⟩ := HI.out
      go_wp2_with fail
      refine (b32ix_any _ _).mono ?_
      rintro e w3 ⟨rfl, rfl⟩
      cases e1 : place b32T s[i] with
      | none =>
        rw [e1] at HN
        have hun : unb32L s.data.toList = none := by rw [unb32L, show udec ⟨[], 0, 0⟩ s.data.toList = none from HN]
        have HUN := Lib.hid hun
        clear hun HN
        simp only [ixI_none]
        go_wp2_with fail
        refine bodyPost_ret (v := maybe none) (by simp [results, Tryd.f14, go_sem, maybe]) rfl ⟨by rw [HUN.out], hb⟩
      | some x =>
        rw [e1] at HN
        have HN2 : Hid (udec ⟨[], 0, 0⟩ s.data.toList = udec (ustep ⟨l, b, n⟩ x) (s.data.toList.drop (i + 1))) := HN
        clear HN
        have hx : x < 32 := place_lt _ _ _ e1
        have hor := or_lit (wl b 5) x hx
        simp only [ixI_some]
        by_cases h8 : 8 ≤ n + 5
        · obtain ⟨m, hm⟩ : ∃ m : Nat, n = m + 3 := ⟨n - 3, by omega⟩
          subst hm
          have HN3 : Hid (udec ⟨[], 0, 0⟩ s.data.toList = udec ⟨l ++ [lo (Dg.wr (wo (wl b 5) (BitVec.ofNat 32 x)) m)], wo (wl b 5) (BitVec.ofNat 32 x), m⟩ (s.data.toList.drop (i + 1))) := by
            show _ = _
            rw [HN2.out]
            unfold ustep
            rw [if_neg (by simp <;> omega)]
            simp only [Nat.add_sub_cancel, show m + 3 + 5 - 8 = m by omega]
          clear HN2
          go_wp2_with (at_builtin; refine wpList_append_own _ rfl _ _ 30 rfl w.heap.size 5 i5 (.int .u8 0) 1 1 Tryd.underlying30 hi5 hz5 hs5 hb5 rfl (by decide) _ _ _ rfl (hown.alloc _) ⟨w3.heap.size, 0, none⟩ 1 1 [_] rfl rfl (cell_one_new _ _ _) (by simp [Value.oneCell']) (by unfold maxLen; omega) (by omega) (by simp; omega) ?_; intro v' w5 hown' hgrow' _)
          have hb' := (hb.alloc hbz _).grown hgrow' (by simp; omega) (fun k e => (hown.lt k e).1)
          refine ⟨⟨i + 1, m, k + 1, _, _, by omega, rfl, by first | go_num | (congr 1; omega), by omega, by omega, by go_num, by simpa [bc] using hown', HN3, hb'⟩, by simp [intOf]; omega⟩
        · have HN3 : Hid (udec ⟨[], 0, 0⟩ s.data.toList = udec ⟨l, wo (wl b 5) (BitVec.ofNat 32 x), n + 5⟩ (s.data.toList.drop (i + 1))) := by
            show _ = _
            rw [HN2.out]
            unfold ustep
            rw [if_pos (by simp <;> omega)]
          clear HN2
          go_wp2_with fail
          refine ⟨⟨i + 1, n + 5, k, _, _, by omega, rfl, by go_num, by omega, by omega, by go_num, hown, HN3, hb⟩, by simp [intOf]; omega⟩
    · have hcv := own_str hown
      have hun : Hid (udec ⟨[], 0, 0⟩ s.data.toList = some l) := by
        show _ = _
        rw [HL.out, List.drop_of_length_le (by simpa using hlt)]
        rfl
      have hll : l.length = k := by have := hown.1; simpa [bc] using this
      have hls : (ByteArray.mk l.toArray).size ≤ 1000000 := by show l.toArray.size ≤ _; simp; omega
      have HLS := Lib.hid hls
      clear hls hll
      go_wp2_with fail
      refine (base_any _ _ HLS.out).mono ?_
      rintro e w3 ⟨rfl, hb3⟩
      have hb4 := hb.trans (hb3.mono hb.size)
      clear hcv
      by_cases heq : b32L l = s.data.toList
      · have hq : (b32L l == s.toList) = true := by rw [Lib.toList_data, heq]; simp
        have HUN : Hid (unb32L s.data.toList = some l) := by
          show _ = _
          rw [unb32L, hun.out]
          exact if_pos heq
        clear heq
        go_wp2_with fail
        refine bodyPost_ret (v := maybe (some l)) (by simp [results, Tryd.f14, go_sem, maybe]) rfl ⟨by rw [HUN.out], hb4⟩
      · have hq : (b32L l == s.toList) = false := by rw [Lib.toList_data]; simpa using heq
        have HUN : Hid (unb32L s.data.toList = none) := by
          show _ = _
          rw [unb32L, hun.out]
          exact if_neg heq
        clear heq
        go_wp2_with fail
        refine bodyPost_ret (v := maybe none) (by simp [results, Tryd.f14, go_sem, maybe]) rfl ⟨by rw [HUN.out], hb4⟩
end Go.Proofs.YtejckicjfmhhoaaDoor

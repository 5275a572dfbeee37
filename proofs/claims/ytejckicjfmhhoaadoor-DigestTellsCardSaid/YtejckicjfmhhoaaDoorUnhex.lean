/- What Unhex returns. -/
import Derived.Test.YtejckicjfmhhoaaDoorHex
import Derived.Test.YtejckicjfmhhoaaDoorShelf
import Derived.Deep.QuietTactic
import Derived.BigQuiet
namespace Dg

/-- The place of a character among the digits. -/
def place : List UInt8 → UInt8 → Option Nat
  | [], _ => none
  | b :: l, c => if b == c then some 0 else (place l c).map (· + 1)

def unhexA : List UInt8 → List UInt8 → Option (List UInt8)
  | acc, [] => some acc
  | _, [_] => none
  | acc, a :: b :: r => match place hexT a, place hexT b with
    | some x, some y => unhexA (acc ++ [UInt8.ofNat (16 * x + y)]) r
    | _, _ => none
def unhexL (s : List UInt8) : Option (List UInt8) := unhexA [] s

theorem place_lt : ∀ (l : List UInt8) (c : UInt8) (n : Nat), place l c = some n → n < l.length
  | [], _, _ => by simp [place]
  | b :: l, c, n => by
    unfold place
    split
    · intro h; cases h; simp
    · intro h
      obtain ⟨m, hm, rfl⟩ := Option.map_eq_some_iff.1 h
      have := place_lt l c m hm
      simp; omega

theorem unhexA_odd : ∀ (n : Nat) (acc s : List UInt8), s.length = 2 * n + 1 → unhexA acc s = none
  | 0, acc, [_], _ => by simp [unhexA]
  | n + 1, acc, a :: b :: r, h => by
    unfold unhexA
    split
    · exact unhexA_odd n _ _ (by simp at h; omega)
    · rfl

end Dg
namespace Go.Proofs.YtejckicjfmhhoaaDoor
open Go.RowKit Dg

/-- A text or nothing, as a function returns it. -/
def maybe (o : Option (List UInt8)) : Value := .tuple #[.string ⟨(o.getD []).toArray⟩, .bool o.isSome]

theorem index_none : ∀ (l : List UInt8) (c : UInt8), place l c = none → Lib.indexByte l c = -1
  | [], _, _ => rfl
  | b :: l, c, h => by
    unfold place at h
    unfold Lib.indexByte
    split at h
    · exact absurd h (by simp)
    · rename_i hb
      rw [if_neg hb, index_none l c (by simpa using h)]; rfl
theorem index_some : ∀ (l : List UInt8) (c : UInt8) (n : Nat), place l c = some n → Lib.indexByte l c = n
  | [], _, _, h => by simp [place] at h
  | b :: l, c, n, h => by
    unfold place at h
    unfold Lib.indexByte
    split at h
    · rename_i hb
      cases h
      rw [if_pos hb]; rfl
    · rename_i hb
      obtain ⟨m, hm, rfl⟩ := Option.map_eq_some_iff.1 h
      rw [if_neg hb, index_some l c m hm, if_neg (by simp <;> omega)]
      simp

/-- What strings.IndexByte returns, as a number. -/
def ixI (o : Option Nat) : Int := match o with | some n => n | none => -1
theorem ixI_none : ixI none = -1 := rfl
theorem ixI_some (n : Nat) : ixI (some n) = n := rfl
theorem below_drews {B : Nat} {a w : World} (h : Below B a w) : ∀ n, Below B a (w.drewN n) := fun _ => ⟨h.os, h.tape, h.output, h.size, h.block⟩
theorem index_ix (l : List UInt8) (c : UInt8) : Lib.indexByte l c = ixI (place l c) := by
  cases h : place l c with
  | none => exact index_none l c h
  | some n => exact index_some l c n h

theorem index_any (T : ByteArray) (c : UInt8) (w : World) : Calls Tryd.prog 28 #[.string T, .int .u8 (c.toNat : Int)] w fun e w' => e = .returned (.int .i64 (ixI (place T.data.toList c))) ∧ w' = w := by
  have := Tryd.strings_IndexByte T (c.toNat : Int) w
  simpa [index_ix] using this

theorem hexix_any (c : UInt8) (w : World) : Calls Tryd.prog 28 #[.string ⟨#[48, 49, 50, 51, 52, 53, 54, 55, 56, 57, 97, 98, 99, 100, 101, 102]⟩, .int .u8 (c.toNat : Int)] w fun e w' => e = .returned (.int .i64 (ixI (place hexT c))) ∧ w' = w := index_any _ c w

theorem wrap_i64 {x : Int} (h0 : -4611686018427387904 ≤ x) (h1 : x < 4611686018427387904) : IntKind.i64.wrap x = x := by
  unfold IntKind.wrap
  simp [IntKind.bits, IntKind.signed]
  omega

theorem drop_two {l : List UInt8} {i : Nat} {a b : UInt8} (h1 : l[i]? = some a) (h2 : l[i + 1]? = some b) : l.drop i = a :: b :: l.drop (i + 2) := by
  obtain ⟨h1', rfl⟩ := List.getElem?_eq_some_iff.1 h1
  obtain ⟨h2', rfl⟩ := List.getElem?_eq_some_iff.1 h2
  rw [List.drop_eq_getElem_cons h1', List.drop_eq_getElem_cons h2']

theorem unhex_next {s l : List UInt8} {i : Nat} {a b : UInt8} {o : Option (List UInt8)} (H : Hid (o = unhexA l (s.drop i))) (h1 : s[i]? = some a) (h2 : s[i + 1]? = some b) :
    o = match place hexT a, place hexT b with
    | some x, some y => unhexA (l ++ [UInt8.ofNat (16 * x + y)]) (s.drop (i + 2))
    | _, _ => none := by
  rw [H.out, drop_two h1 h2, unhexA]

theorem or_byte (x y : Nat) (hx : x < 16) (hy : y < 16) : bits .or .i64 ((x : Int) * 16) (y : Int) % 256 = ((UInt8.ofNat (16 * x + y)).toNat : Int) := by
  have h : ∀ d e : Fin 16, bits .or .i64 (((d.val : Nat) : Int) * 16) ((e.val : Nat) : Int) % 256 = ((UInt8.ofNat (16 * d.val + e.val)).toNat : Int) := by decide +kernel
  exact h ⟨x, hx⟩ ⟨y, hy⟩

set_option maxRecDepth 100000 in
theorem unhex_any (s : ByteArray) (w : World) (hs : s.size ≤ 1000000) :
    Calls Tryd.prog 12 #[.string s] w fun e w' => e = .returned (maybe (unhexL s.data.toList)) ∧ Below w.heap.size w w' := by
  go_enter Tryd.func12, Tryd.ntmps12
  obtain ⟨i5, hi5, hz5, hs5, hb5⟩ := info_parts Tryd.info5
  have HI := Lib.hid (And.intro hi5 (And.intro hz5 (And.intro hs5 hb5)))
  by_cases hodd : s.size % 2 = 1
  · have ho : ((s.size : Int) % 2 != 0) = true := by simp; omega
    go_wp2_with fail
    refine bodyPost_ret (v := maybe none) (by simp [results, Tryd.f12, go_sem, maybe]) rfl ⟨?_, Below.refl _ _⟩
    rw [unhexL, unhexA_odd (s.size / 2) [] s.data.toList (by simp; have : s.data.size = s.size := rfl; omega)]
  have ho : ((s.size : Int) % 2 != 0) = false := by simp; omega
  go_wp2_with (at_make; refine wpList_make_own _ rfl _ _ 30 rfl w.heap.size 5 i5 (.int .u8 0) 1 Tryd.underlying30 hi5 hz5 hs5 .i64 .i64 ((s.size : Int) / 2) (s.size / 2) rfl rfl (by omega) (by rw [hb5]; omega) (by unfold maxLen; omega) (Nat.le_refl _) ?_; intro w2 hown2 hgrow2; have hb2 := (Below.refl w.heap.size w).grown hgrow2 (Nat.le_refl _) (fun k e => by cases e))
  go_loopw [4, 5] (fun v sh wr => ∃ (i q : Nat) (l : List UInt8), i ≤ s.size ∧ Hid (i = 2 * q) ∧ sh = .int .i64 (i : Int) ∧ wr.ownsRow w.heap.size 5 1 v q (bc l) ∧ Hid (unhexL s.data.toList = unhexA l (s.data.toList.drop i)) ∧ Below w.heap.size w wr)
    (fun _ sh _ => (s.size - intOf sh).toNat)
  case atStart => exact ⟨0, 0, [], by omega, by rfl, rfl, hown2, by rfl, hb2⟩
  case round =>
    clear hown2 hb2 hgrow2
    obtain ⟨i, q, l, hi, HQ, rfl, hown, HL, hb⟩ := hrel
    obtain ⟨wo, rfl⟩ : ∃ wo : World, wo = wr := ⟨_, rfl⟩
    by_cases hlt : i < s.size
    · obtain ⟨j, HJ, hwr, hlt1⟩ : ∃ j : Nat, Hid (j = i + 1) ∧ IntKind.i64.wrap ((i : Int) + 1) = (j : Int) ∧ j < s.size := ⟨i + 1, by rfl, wrap_i64 (by omega) (by omega), by have := HQ.out; omega⟩
      have hc0 : s.data.toList[i]? = some s[i] := by
        rw [List.getElem?_eq_getElem (by simpa using hlt)]
        rfl
      have hc1 : s.data.toList[j]? = some s[j] := by
        rw [List.getElem?_eq_getElem (by simpa using hlt1)]
        rfl
      have HN := unhex_next HL hc0 (by rw [← HJ.out]; exact hc1)
      go_wp2_with fail
      go_quiet ((go_at_call 28; refine Calls.quiet_of_same (hexix_any _ _)))
      have hownq : (wo.drewN nq).ownsRow w.heap.size 5 1 u4 q (bc l) := hown
      have hbq : Below w.heap.size w (wo.drewN nq) := below_drews hb nq
      clear hown hb hc0 hc1
      obtain ⟨wq, hwq⟩ : ∃ wq : World, wq = wo.drewN nq := ⟨_, rfl⟩
      rw [← hwq] at hownq hbq
      rw [← hwq]
      clear hwq
      have hbz := hbq.size
      obtain ⟨hi5, hz5, hs5, hb5⟩ := HI.out
      cases e1 : place hexT s[i] with
      | none =>
        rw [e1] at HN
        replace HN : unhexL s.data.toList = none := HN
        simp only [ixI_none]
        go_wp2_with fail
        refine bodyPost_ret (v := maybe none) (by simp [results, Tryd.f12, go_sem, maybe]) rfl ⟨by rw [HN], hbq⟩
      | some x =>
        rw [e1] at HN
        cases e2 : place hexT s[j] with
        | none =>
          rw [e2] at HN
          replace HN : unhexL s.data.toList = none := HN
          simp only [ixI_none, ixI_some]
          go_wp2_with fail
          refine bodyPost_ret (v := maybe none) (by simp [results, Tryd.f12, go_sem, maybe]) rfl ⟨by rw [HN], hbq⟩
        | some y =>
          rw [e2] at HN
          have HN2 : Hid (unhexL s.data.toList = unhexA (l ++ [UInt8.ofNat (16 * x + y)]) (s.data.toList.drop (i + 2))) := HN
          have hx : x < 16 := place_lt _ _ _ e1
          have hy : y < 16 := place_lt _ _ _ e2
          have hor := or_byte x y hx hy
          clear HN e1 e2
          simp only [ixI_some]
          have hq5 : q ≤ 500000 := by have := HQ.out; omega
          go_wp2_with (at_builtin; refine wpList_append_own _ rfl _ _ 30 rfl w.heap.size 5 i5 (.int .u8 0) 1 1 Tryd.underlying30 hi5 hz5 hs5 hb5 rfl (by decide) _ _ _ rfl (hownq.alloc _) ⟨wq.heap.size, 0, none⟩ 1 1 [_] rfl rfl (cell_one_new _ _ _) (by simp [Value.oneCell']) (by unfold maxLen; omega) (by omega) (by simp; omega) ?_; intro v' w1 hown' hgrow' _)
          have hb' := (hbq.alloc hbz _).grown hgrow' (by simp; omega) (fun k e => (hownq.lt k e).1)
          refine ⟨⟨i + 2, q + 1, _, by have := HQ.out; omega, by show _ = _; rw [HQ.out]; omega, by go_num, by simpa [bc] using hown', HN2, hb'⟩, by simp [intOf]; omega⟩
    · have hcv := own_str hown
      go_wp2_with fail
      refine bodyPost_ret (v := maybe (some l)) (by simp [results, Tryd.f12, go_sem, maybe]) rfl ⟨?_, hb⟩
      rw [HL.out, List.drop_of_length_le (by simpa using hlt)]
      rfl
end Go.Proofs.YtejckicjfmhhoaaDoor

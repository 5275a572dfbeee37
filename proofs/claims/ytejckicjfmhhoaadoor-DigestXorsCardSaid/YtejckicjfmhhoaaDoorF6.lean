/- DigestXors returns true. -/
import Derived.Test.YtejckicjfmhhoaaDoorF3
import Derived.Test.YtejckicjfmhhoaaDoorLin
import Derived.Deep.RegionLaw
import Derived.BigQuiet
namespace Go.Proofs.YtejckicjfmhhoaaDoor
open Go.RowKit Dg

theorem ofInt_wn64 (b : Word) : BitVec.ofInt 64 (wn b) = b.setWidth 64 := by
  unfold wn
  rw [BitVec.ofInt_natCast]
  exact BitVec.eq_of_toNat_eq (by rw [BitVec.toNat_ofNat, BitVec.toNat_setWidth])
theorem xor_i64 (a b : Word) : bits .xor .i64 (wn a) (wn b) = wn (wx a b) := by
  show IntKind.i64.wrap ((BitVec.ofInt 64 (wn a) ^^^ BitVec.ofInt 64 (wn b)).toNat : Int) = _
  rw [ofInt_wn64, ofInt_wn64, ← BitVec.setWidth_xor]
  show IntKind.i64.wrap (((wx a b).setWidth 64).toNat : Int) = ((wx a b).toNat : Int)
  have := (wx a b).isLt
  rw [BitVec.toNat_setWidth, Nat.mod_eq_of_lt (by omega)]
  exact wrap_i64 (by omega) (by omega)

attribute [local go_sem] xor_i64 xor_u8

theorem zx_length (a b : List UInt8) : (zx a b).length = min a.length b.length := by simp [zx]
theorem zx_next {a b c : List UInt8} {i : Nat} {x y z : UInt8} {l : List UInt8} (H : Hid (l = zx (zx (a.take i) (b.take i)) (c.take i))) (ha : a[i]? = some x) (hb : b[i]? = some y) (hc : c[i]? = some z) :
    Hid (l ++ [(x ^^^ y) ^^^ z] = zx (zx (a.take (i + 1)) (b.take (i + 1))) (c.take (i + 1))) := by
  show _ = _
  obtain ⟨h1, _⟩ := List.getElem?_eq_some_iff.1 ha
  obtain ⟨h2, _⟩ := List.getElem?_eq_some_iff.1 hb
  obtain ⟨h3, _⟩ := List.getElem?_eq_some_iff.1 hc
  rw [H.out, List.take_add_one, List.take_add_one, List.take_add_one, ha, hb, hc]
  unfold zx
  simp only [Option.toList_some]
  rw [List.zipWith_append (by simp; omega), List.zipWith_append (by simp; omega)]
  rfl

set_option maxRecDepth 100000 in
theorem xors_big (a b c : ByteArray) (w : World) (hG : Good w) (h1 : 2000 < a.size) (h2 : 2000 < b.size) (h3 : 2000 < c.size) : Calls Tryd.prog 6 #[.string a, .string b, .string c] w fun e w' => e = .returned (.bool true) ∧ Below w.heap.size w w' := by
  go_enter Tryd.func6, Tryd.ntmps6
  go_wp2_with fail
  refine (small_any w hG.1 hG.2).mono ?_
  rintro e w1 ⟨rfl, hb1⟩
  go_wp2_with fail
  all_goals exact bodyPost_ret (results_tmp rfl _ _ _) rfl ⟨rfl, hb1⟩

theorem crc_cut (s : ByteArray) (n : Nat) (w : World) (h : n ≤ 2000) : Calls Tryd.prog 16 #[.string (s.extract 0 n)] w fun e w' => e = .returned (.int .i64 (wn (crc (s.data.toList.take n)))) ∧ w' = w :=
  (crc_any _ w (by rw [ByteArray.size_extract]; omega)).mono fun _ _ ⟨h1, h2⟩ => ⟨by rw [h1, Lib.extract_data]; simp, h2⟩
theorem crc_full (s : ByteArray) (w : World) (h : s.size ≤ 2000) : Calls Tryd.prog 16 #[.string s] w fun e w' => e = .returned (.int .i64 (wn (crc (s.data.toList.take s.size)))) ∧ w' = w :=
  (crc_any s w (by omega)).mono fun _ _ ⟨h1, h2⟩ => ⟨by rw [h1, List.take_of_length_le (show s.data.toList.length ≤ s.size from Nat.le_refl _)], h2⟩
theorem crc_of6 (l : List UInt8) (w : World) (hs : l.length ≤ 1000000) : Calls Tryd.prog 16 #[.string ⟨l.toArray⟩] w fun e w' => e = .returned (.int .i64 (wn (crc l))) ∧ w' = w :=
  crc_any ⟨l.toArray⟩ w (by rw [mk_size]; exact hs)

set_option maxRecDepth 100000 in
theorem xors_a (a b c : ByteArray) (w : World) (hG : Good w) (h : a.size ≤ 2000) (ha : a.size ≤ a.size) (hb : a.size ≤ b.size) (hc : a.size ≤ c.size) :
    Calls Tryd.prog 6 #[.string a, .string b, .string c] w fun e w' => e = .returned (.bool true) ∧ Below w.heap.size w w' := by
  go_enter Tryd.func6, Tryd.ntmps6
  go_wp2_with fail
  refine (small_any w hG.1 hG.2).mono ?_
  rintro e w1 ⟨rfl, hb1⟩
  obtain ⟨i5, hi5, hz5, hs5, hb5⟩ := info_parts Tryd.info5
  have HI := Lib.hid (And.intro hi5 (And.intro hz5 (And.intro hs5 hb5)))
  go_wp2_with fail
  go_loopw [9, 10] (fun v sh wr => ∃ (i : Nat) (l : List UInt8), i ≤ a.size ∧ sh = .int .i64 (i : Int) ∧ wr.ownsRow w1.heap.size 5 1 v i (bc l) ∧ Hid (l = zx (zx (a.data.toList.take i) (b.data.toList.take i)) (c.data.toList.take i)) ∧ Below w1.heap.size w1 wr)
    (fun _ sh _ => (a.size - intOf sh).toNat)
  case atStart => exact ⟨0, [], by omega, rfl, World.ownsRow_nil _ _ _ _, by rfl, Below.refl _ _⟩
  case round =>
    obtain ⟨i, l, hi, rfl, hown, HL, hbel⟩ := hrel
    obtain ⟨w2, rfl⟩ : ∃ w2 : World, w2 = wr := ⟨_, rfl⟩
    by_cases hlt : i < a.size
    · have ga : i < a.size := by omega
      have gb : i < b.size := by omega
      have gc : i < c.size := by omega
      have ka : a.data.toList[i]? = some a[i] := by
        rw [List.getElem?_eq_getElem (by simpa using ga)]; rfl
      have kb : b.data.toList[i]? = some b[i] := by
        rw [List.getElem?_eq_getElem (by simpa using gb)]; rfl
      have kc : c.data.toList[i]? = some c[i] := by
        rw [List.getElem?_eq_getElem (by simpa using gc)]; rfl
      have HN := zx_next HL ka kb kc
      have hx1 := xor_u8 a[i] b[i]
      have hx2 := xor_u8 (a[i] ^^^ b[i]) c[i]
      have hown1 : w2.drew.ownsRow w1.heap.size 5 1 u9 i (bc l) := hown
      have hbz := hbel.size
      obtain ⟨hi5, hz5, hs5, hb5⟩ := HI.out
      clear ka kb kc
      go_wp2_with fail
      go_region_law (refine step_append_own rfl (.tmp 27) (.tmp 39) 30 rfl w1.heap.size 5 i5 (.int .u8 0) 1 1 Tryd.underlying30 hi5 hz5 hs5 hb5 rfl (by decide) _ i (bc l) rfl (hown1.alloc _) ⟨w2.heap.size, 0, none⟩ 1 1 [_] rfl rfl (cells_new w2.drew [_] _) (by simp [Value.oneCell']) (by unfold maxLen; omega) (by omega) (by simp; omega) ?_; intro v1 w3 hown' hgrow')
      all_goals
        have hb' : Below w1.heap.size w1 w3 := (hbel.drew.alloc hbz _).grown hgrow' (by simp; omega) (fun k e => (hown.lt k e).1)
        rw [← UInt8.toNat_xor, xor_u8] at hown'
        have hown3 : w3.ownsRow w1.heap.size 5 1 v1 (i + 1) (bc (l ++ [(a[i] ^^^ b[i]) ^^^ c[i]])) := by simpa [bc] using hown'
        clear hown' hgrow' hown1 hown hbel
        go_wp2_with fail
        refine ⟨⟨i + 1, _, by omega, by go_num, hown3, HN, hb'⟩, by simp [intOf]; omega⟩
    · have hieq : i = a.size := by omega
      subst hieq
      have hcv : ∀ n, (convert 30 9 u9).run Tryd.prog (w2.drewN n) = .ok (.string ⟨l.toArray⟩) (w2.drewN n) := fun n => own_str (w := w2.drewN n) hown
      have hll : l.length ≤ 1000000 := by have := hown.1; simp [bc] at this; omega
      have hthree := crc_three (a.data.toList.take a.size) (b.data.toList.take a.size) (c.data.toList.take a.size) (by rw [List.length_take, List.length_take, size_len, size_len]; omega) (by rw [List.length_take, List.length_take, size_len, size_len]; omega)
      rw [← HL.out] at hthree
      have HT := Lib.hid hthree
      clear hthree
      have hqe : (wn (crc l) == wn (wx (wx (crc (a.data.toList.take a.size)) (crc (b.data.toList.take a.size))) (crc (c.data.toList.take a.size)))) = true := by rw [HT.out]; simp
      go_wp2_with fail
      go_quiet ((go_at_call 16; first | (with_reducible refine Calls.quiet_of_same (crc_of6 _ _ hll)) | (with_reducible refine Calls.quiet_of_same (crc_cut _ _ _ h)) | (with_reducible refine Calls.quiet_of_same (crc_full _ _ h))))
      go_wp2_with fail
      exact bodyPost_ret (results_tmp rfl _ _ _) rfl ⟨rfl, hb1.trans ((below_drews hbel nq).mono hb1.size)⟩

set_option maxRecDepth 100000 in
theorem xors_b (a b c : ByteArray) (w : World) (hG : Good w) (h : b.size ≤ 2000) (ha : b.size < a.size) (hb : b.size ≤ b.size) (hc : b.size ≤ c.size) :
    Calls Tryd.prog 6 #[.string a, .string b, .string c] w fun e w' => e = .returned (.bool true) ∧ Below w.heap.size w w' := by
  go_enter Tryd.func6, Tryd.ntmps6
  go_wp2_with fail
  refine (small_any w hG.1 hG.2).mono ?_
  rintro e w1 ⟨rfl, hb1⟩
  obtain ⟨i5, hi5, hz5, hs5, hb5⟩ := info_parts Tryd.info5
  have HI := Lib.hid (And.intro hi5 (And.intro hz5 (And.intro hs5 hb5)))
  go_wp2_with fail
  go_loopw [9, 10] (fun v sh wr => ∃ (i : Nat) (l : List UInt8), i ≤ b.size ∧ sh = .int .i64 (i : Int) ∧ wr.ownsRow w1.heap.size 5 1 v i (bc l) ∧ Hid (l = zx (zx (a.data.toList.take i) (b.data.toList.take i)) (c.data.toList.take i)) ∧ Below w1.heap.size w1 wr)
    (fun _ sh _ => (b.size - intOf sh).toNat)
  case atStart => exact ⟨0, [], by omega, rfl, World.ownsRow_nil _ _ _ _, by rfl, Below.refl _ _⟩
  case round =>
    obtain ⟨i, l, hi, rfl, hown, HL, hbel⟩ := hrel
    obtain ⟨w2, rfl⟩ : ∃ w2 : World, w2 = wr := ⟨_, rfl⟩
    by_cases hlt : i < b.size
    · have ga : i < a.size := by omega
      have gb : i < b.size := by omega
      have gc : i < c.size := by omega
      have ka : a.data.toList[i]? = some a[i] := by
        rw [List.getElem?_eq_getElem (by simpa using ga)]; rfl
      have kb : b.data.toList[i]? = some b[i] := by
        rw [List.getElem?_eq_getElem (by simpa using gb)]; rfl
      have kc : c.data.toList[i]? = some c[i] := by
        rw [List.getElem?_eq_getElem (by simpa using gc)]; rfl
      have HN := zx_next HL ka kb kc
      have hx1 := xor_u8 a[i] b[i]
      have hx2 := xor_u8 (a[i] ^^^ b[i]) c[i]
      have hown1 : w2.drew.ownsRow w1.heap.size 5 1 u9 i (bc l) := hown
      have hbz := hbel.size
      obtain ⟨hi5, hz5, hs5, hb5⟩ := HI.out
      clear ka kb kc
      go_wp2_with fail
      go_region_law (refine step_append_own rfl (.tmp 27) (.tmp 39) 30 rfl w1.heap.size 5 i5 (.int .u8 0) 1 1 Tryd.underlying30 hi5 hz5 hs5 hb5 rfl (by decide) _ i (bc l) rfl (hown1.alloc _) ⟨w2.heap.size, 0, none⟩ 1 1 [_] rfl rfl (cells_new w2.drew [_] _) (by simp [Value.oneCell']) (by unfold maxLen; omega) (by omega) (by simp; omega) ?_; intro v1 w3 hown' hgrow')
      all_goals
        have hb' : Below w1.heap.size w1 w3 := (hbel.drew.alloc hbz _).grown hgrow' (by simp; omega) (fun k e => (hown.lt k e).1)
        rw [← UInt8.toNat_xor, xor_u8] at hown'
        have hown3 : w3.ownsRow w1.heap.size 5 1 v1 (i + 1) (bc (l ++ [(a[i] ^^^ b[i]) ^^^ c[i]])) := by simpa [bc] using hown'
        clear hown' hgrow' hown1 hown hbel
        go_wp2_with fail
        refine ⟨⟨i + 1, _, by omega, by go_num, hown3, HN, hb'⟩, by simp [intOf]; omega⟩
    · have hieq : i = b.size := by omega
      subst hieq
      have hcv : ∀ n, (convert 30 9 u9).run Tryd.prog (w2.drewN n) = .ok (.string ⟨l.toArray⟩) (w2.drewN n) := fun n => own_str (w := w2.drewN n) hown
      have hll : l.length ≤ 1000000 := by have := hown.1; simp [bc] at this; omega
      have hthree := crc_three (a.data.toList.take b.size) (b.data.toList.take b.size) (c.data.toList.take b.size) (by rw [List.length_take, List.length_take, size_len, size_len]; omega) (by rw [List.length_take, List.length_take, size_len, size_len]; omega)
      rw [← HL.out] at hthree
      have HT := Lib.hid hthree
      clear hthree
      have hqe : (wn (crc l) == wn (wx (wx (crc (a.data.toList.take b.size)) (crc (b.data.toList.take b.size))) (crc (c.data.toList.take b.size)))) = true := by rw [HT.out]; simp
      go_wp2_with fail
      go_quiet ((go_at_call 16; first | (with_reducible refine Calls.quiet_of_same (crc_of6 _ _ hll)) | (with_reducible refine Calls.quiet_of_same (crc_cut _ _ _ h)) | (with_reducible refine Calls.quiet_of_same (crc_full _ _ h))))
      go_wp2_with fail
      exact bodyPost_ret (results_tmp rfl _ _ _) rfl ⟨rfl, hb1.trans ((below_drews hbel nq).mono hb1.size)⟩

set_option maxRecDepth 100000 in
theorem xors_c (a b c : ByteArray) (w : World) (hG : Good w) (h : c.size ≤ 2000) (ha : c.size < a.size) (hb : c.size < b.size) (hc : c.size ≤ c.size) :
    Calls Tryd.prog 6 #[.string a, .string b, .string c] w fun e w' => e = .returned (.bool true) ∧ Below w.heap.size w w' := by
  go_enter Tryd.func6, Tryd.ntmps6
  go_wp2_with fail
  refine (small_any w hG.1 hG.2).mono ?_
  rintro e w1 ⟨rfl, hb1⟩
  obtain ⟨i5, hi5, hz5, hs5, hb5⟩ := info_parts Tryd.info5
  have HI := Lib.hid (And.intro hi5 (And.intro hz5 (And.intro hs5 hb5)))
  go_wp2_with fail
  go_loopw [9, 10] (fun v sh wr => ∃ (i : Nat) (l : List UInt8), i ≤ c.size ∧ sh = .int .i64 (i : Int) ∧ wr.ownsRow w1.heap.size 5 1 v i (bc l) ∧ Hid (l = zx (zx (a.data.toList.take i) (b.data.toList.take i)) (c.data.toList.take i)) ∧ Below w1.heap.size w1 wr)
    (fun _ sh _ => (c.size - intOf sh).toNat)
  case atStart => exact ⟨0, [], by omega, rfl, World.ownsRow_nil _ _ _ _, by rfl, Below.refl _ _⟩
  case round =>
    obtain ⟨i, l, hi, rfl, hown, HL, hbel⟩ := hrel
    obtain ⟨w2, rfl⟩ : ∃ w2 : World, w2 = wr := ⟨_, rfl⟩
    by_cases hlt : i < c.size
    · have ga : i < a.size := by omega
      have gb : i < b.size := by omega
      have gc : i < c.size := by omega
      have ka : a.data.toList[i]? = some a[i] := by
        rw [List.getElem?_eq_getElem (by simpa using ga)]; rfl
      have kb : b.data.toList[i]? = some b[i] := by
        rw [List.getElem?_eq_getElem (by simpa using gb)]; rfl
      have kc : c.data.toList[i]? = some c[i] := by
        rw [List.getElem?_eq_getElem (by simpa using gc)]; rfl
      have HN := zx_next HL ka kb kc
      have hx1 := xor_u8 a[i] b[i]
      have hx2 := xor_u8 (a[i] ^^^ b[i]) c[i]
      have hown1 : w2.drew.ownsRow w1.heap.size 5 1 u9 i (bc l) := hown
      have hbz := hbel.size
      obtain ⟨hi5, hz5, hs5, hb5⟩ := HI.out
      clear ka kb kc
      go_wp2_with fail
      go_region_law (refine step_append_own rfl (.tmp 27) (.tmp 39) 30 rfl w1.heap.size 5 i5 (.int .u8 0) 1 1 Tryd.underlying30 hi5 hz5 hs5 hb5 rfl (by decide) _ i (bc l) rfl (hown1.alloc _) ⟨w2.heap.size, 0, none⟩ 1 1 [_] rfl rfl (cells_new w2.drew [_] _) (by simp [Value.oneCell']) (by unfold maxLen; omega) (by omega) (by simp; omega) ?_; intro v1 w3 hown' hgrow')
      all_goals
        have hb' : Below w1.heap.size w1 w3 := (hbel.drew.alloc hbz _).grown hgrow' (by simp; omega) (fun k e => (hown.lt k e).1)
        rw [← UInt8.toNat_xor, xor_u8] at hown'
        have hown3 : w3.ownsRow w1.heap.size 5 1 v1 (i + 1) (bc (l ++ [(a[i] ^^^ b[i]) ^^^ c[i]])) := by simpa [bc] using hown'
        clear hown' hgrow' hown1 hown hbel
        go_wp2_with fail
        refine ⟨⟨i + 1, _, by omega, by go_num, hown3, HN, hb'⟩, by simp [intOf]; omega⟩
    · have hieq : i = c.size := by omega
      subst hieq
      have hcv : ∀ n, (convert 30 9 u9).run Tryd.prog (w2.drewN n) = .ok (.string ⟨l.toArray⟩) (w2.drewN n) := fun n => own_str (w := w2.drewN n) hown
      have hll : l.length ≤ 1000000 := by have := hown.1; simp [bc] at this; omega
      have hthree := crc_three (a.data.toList.take c.size) (b.data.toList.take c.size) (c.data.toList.take c.size) (by rw [List.length_take, List.length_take, size_len, size_len]; omega) (by rw [List.length_take, List.length_take, size_len, size_len]; omega)
      rw [← HL.out] at hthree
      have HT := Lib.hid hthree
      clear hthree
      have hqe : (wn (crc l) == wn (wx (wx (crc (a.data.toList.take c.size)) (crc (b.data.toList.take c.size))) (crc (c.data.toList.take c.size)))) = true := by rw [HT.out]; simp
      go_wp2_with fail
      go_quiet ((go_at_call 16; first | (with_reducible refine Calls.quiet_of_same (crc_of6 _ _ hll)) | (with_reducible refine Calls.quiet_of_same (crc_cut _ _ _ h)) | (with_reducible refine Calls.quiet_of_same (crc_full _ _ h))))
      go_wp2_with fail
      exact bodyPost_ret (results_tmp rfl _ _ _) rfl ⟨rfl, hb1.trans ((below_drews hbel nq).mono hb1.size)⟩
end Go.Proofs.YtejckicjfmhhoaaDoor

/- What Sum of the reference returns. -/
import Derived.Test.YtejckicjfmhhoaaDoorRefE
import Derived.Test.YtejckicjfmhhoaaDoorBrow
namespace Go.Proofs.YtejckicjfmhhoaaDoor
open Go.RowKit Dg

theorem cell_new1 (w : World) (x : Value) : (w.alloc (.cells #[x] 5)).cell? ⟨w.heap.size, 0, none⟩ = some x := by
  have := heap_alloc_new w (.cells #[x] 5)
  unfold World.cell?
  rw [this]
  rfl
theorem init_made (w : World) : Lw (w.alloc (.cells #[.int .i64 1779033703, .int .i64 3144134277, .int .i64 1013904242, .int .i64 2773480762, .int .i64 1359893119, .int .i64 2600822924, .int .i64 528734635, .int .i64 1541459225] 3)) w.heap.size init.list := Lw.made w init.list 3

theorem size_byte (m k : Nat) (hm : m < 9223372036854775808) : bits .and .i64 ((m : Int) / 2 ^ k) 255 = ((UInt8.ofNat (m >>> k)).toNat : Int) := by
  rw [show (m : Int) / 2 ^ k = ((m / 2 ^ k : Nat) : Int) by simp, and_mask (m / 2 ^ k) 8 255 (Nat.lt_of_le_of_lt (Nat.div_le_self _ _) hm) (by omega) (by decide), UInt8.toNat_ofNat', Nat.shiftRight_eq_div_pow]
theorem l_and255 (a : Word) : bits .and .i64 (wn a) 255 = ((lo a).toNat : Int) := by
  have h := a.isLt
  rw [wn, and_mask a.toNat 8 255 (by omega) (by omega) (by decide)]
  unfold lo
  show _ = (((a.setWidth 8).toNat : Nat) : Int)
  rw [BitVec.toNat_setWidth]
theorem wrap8 (c : UInt8) : IntKind.u8.wrap (c.toNat : Int) = (c.toNat : Int) := by
  have := c.toNat_lt
  unfold IntKind.wrap
  simp only [IntKind.bits, IntKind.signed, Bool.false_and, Bool.false_eq_true, if_false]
  omega
theorem mod8 (c : UInt8) : (c.toNat : Int) % 256 = (c.toNat : Int) := by have := c.toNat_lt; omega
theorem shr24 (a : Word) : wn a / 16777216 = wn (Dg.wr a 24) := shr_w a 24 16777216 rfl
theorem shr16 (a : Word) : wn a / 65536 = wn (Dg.wr a 16) := shr_w a 16 65536 rfl
theorem shr8 (a : Word) : wn a / 256 = wn (Dg.wr a 8) := shr_w a 8 256 rfl

set_option maxRecDepth 100000 in
set_option maxHeartbeats 4000000 in
theorem rsum_any (s : ByteArray) (w : World) (hs : s.size ≤ 1000000) :
    Calls Tryd.prog 21 #[.string s] w fun e w' => e = .returned (.string ⟨(sumL s.data.toList).toArray⟩) ∧ Below w.heap.size w w' := by
  obtain ⟨i5, hi5, hz5, hs5, hb5⟩ := info_parts Tryd.info5
  have HI := Lib.hid (And.intro hi5 (And.intro hz5 (And.intro hs5 hb5)))
  obtain ⟨W0, hW0⟩ : ∃ W0, W0 = w.alloc (.cells #[.int .i64 1779033703, .int .i64 3144134277, .int .i64 1013904242, .int .i64 2773480762, .int .i64 1359893119, .int .i64 2600822924, .int .i64 528734635, .int .i64 1541459225] 3) := ⟨_, rfl⟩
  obtain ⟨W1, v1, hB1, hb1, hcv⟩ := Brow.of_string s W0 (by unfold maxLen; omega)
  have hL0 : Lw W0 w.heap.size init.list := by rw [hW0]; exact init_made w
  have hbw0 : Below w.heap.size w W0 := by rw [hW0]; exact (Below.refl _ _).alloc (Nat.le_refl _) _
  have HL0 := Lib.hid (hL0.next hb1)
  have hsz0 : W0.heap.size = w.heap.size + 1 := by rw [hW0]; simp
  rw [hsz0] at hB1
  have HB01 := Lib.hid (hbw0.trans (hb1.mono hbw0.size))
  have hz1 : w.heap.size + 1 ≤ W1.heap.size := by have := hb1.size; omega
  rw [hW0] at hcv
  clear hW0 hsz0 hL0 hbw0
  go_enter Tryd.func21, Tryd.ntmps21
  go_wp2_with (at_builtin; refine wpList_append_brow rfl _ _ 30 rfl (w.heap.size + 1) i5 Tryd.underlying30 hi5 hz5 hs5 hb5 _ _ _ rfl (hB1.alloc _) ⟨W1.heap.size, 0, none⟩ 1 128 rfl (cell_new1 _ _) (by omega) (by simp; omega) ?_; intro v2 w2 hB2 hg2; have hb2 := ((Below.refl (w.heap.size + 1) W1).alloc hz1 (.cells #[.int .u8 128] 5)).grown hg2 (by simp; omega) (fun k e => (hB1.lt k e).1))
  have hz2 := hb2.size
  clear hcv hB1 hb1 hg2 hi5 hz5 hs5 hb5
  go_loopw [4] (fun v wr => ∃ (z n : Nat) (l : List UInt8), Hid (l = s.data.toList ++ 128 :: List.replicate z 0) ∧ Brow wr (w.heap.size + 1) v n l ∧ n ≤ s.size + 1 + z ∧ s.size + 1 + z ≤ n ∧ z ≤ (119 - s.size % 64) % 64 ∧ Below (w.heap.size + 1) W1 wr)
    (fun v _ => 1000200 - sliceLen v)
  case atStart => exact ⟨0, s.size + 1, _, by rfl, hB2, by omega, by omega, by omega, hb2⟩
  case round =>
    clear hB2 hb2
    obtain ⟨z, n, l, HL, hown, hn1, hn2, hz, hb⟩ := hrel
    obtain ⟨wq, rfl⟩ : ∃ wq : World, wq = wr := ⟨_, rfl⟩
    obtain ⟨g2, c2, rfl, hrest⟩ := id hown
    clear hrest
    have hbz := hb.size
    by_cases hlt : z < (119 - s.size % 64) % 64
    · have hq : ((n : Int) % 64 != 56) = true := by simp; omega
      obtain ⟨hi5, hz5, hs5, hb5⟩ := HI.out
      go_wp2_with (at_builtin; refine wpList_append_brow rfl _ _ 30 rfl (w.heap.size + 1) i5 Tryd.underlying30 hi5 hz5 hs5 hb5 _ _ _ rfl (hown.alloc _) ⟨wq.heap.size, 0, none⟩ 1 0 rfl (cell_new1 _ _) (by omega) (by simp; omega) ?_; intro v' w5 hown' hgrow')
      have hb' := (hb.alloc (by omega) (.cells #[Value.int .u8 0] 5)).grown hgrow' (by simp; omega) (fun k e => (hown.lt k e).1)
      obtain ⟨g3, c3, rfl, hrest⟩ := id hown'
      clear hrest
      refine ⟨⟨z + 1, n + 1, l ++ [0], ?_, hown', by omega, by omega, by omega, hb'⟩, by simp [sliceLen]; omega⟩
      show _ = _
      rw [HL.out, List.append_assoc, List.cons_append, ← List.replicate_succ']
    · have hz2 : z = (119 - s.size % 64) % 64 := by omega
      have HL1 : Hid (l = s.data.toList ++ 128 :: List.replicate ((119 - s.size % 64) % 64) 0) := by
        show _ = _
        rw [HL.out, hz2]
      have hnm : n ≤ 1000100 := by omega
      have hn56 : (n + 8) % 64 = 0 := by omega
      have HN56 := Lib.hid hn56
      have hq : ((n : Int) % 64 != 56) = false := by simp; omega
      obtain ⟨m, HM, hm⟩ : ∃ m : Nat, Hid (8 * s.size = m) ∧ 8 * (s.size : Int) = (m : Int) := ⟨8 * s.size, rfl, by omega⟩
      have hm8 : m ≤ 8000000 := by have := HM.out; omega
      clear hz2 HL hn56 hn1 hn2 hz hlt hbz
      go_wp2_with fail
      go_loopw [4, 6] (fun v sh wz => ∃ (j n' : Nat) (l' : List UInt8), j ≤ 8 ∧ sh = .int .i64 (7 - (j : Int)) ∧ Brow wz (w.heap.size + 1) v n' l' ∧ Hid (l' = l ++ (size8 m).take j) ∧ n' ≤ n + j ∧ n + j ≤ n' ∧ Below (w.heap.size + 1) W1 wz)
        (fun _ sh _ => (intOf sh + 1).toNat)
      case atStart => exact ⟨0, n, l, by omega, rfl, hown, by show l = l ++ []; simp, by omega, by omega, hb⟩
      case round =>
        clear hown hb
        obtain ⟨j, n', l', hj, rfl, hown, HL2, hn1, hn2, hb⟩ := hrel
        obtain ⟨wq3, rfl⟩ : ∃ wq3 : World, wq3 = wr := ⟨_, rfl⟩
        obtain ⟨g3, c3, rfl, hrest⟩ := id hown
        clear hrest
        have hbz := hb.size
        by_cases hlt : j < 8
        · obtain ⟨hi5, hz5, hs5, hb5⟩ := HI.out
          rcases (show j = 0 ∨ j = 1 ∨ j = 2 ∨ j = 3 ∨ j = 4 ∨ j = 5 ∨ j = 6 ∨ j = 7 by omega) with e | e | e | e | e | e | e | e
          · subst e
            have hx : bits .and .i64 ((m : Int) / 72057594037927936) 255 = ((UInt8.ofNat (m >>> 56)).toNat : Int) := size_byte m 56 (by omega)
            have hw8 := wrap8 (UInt8.ofNat (m >>> 56))
            generalize hxe : UInt8.ofNat (m >>> 56) = xb at *
            have HXE := Lib.hid hxe
            clear hxe
            go_wp2_with (at_builtin; refine wpList_append_brow rfl _ _ 30 rfl (w.heap.size + 1) i5 Tryd.underlying30 hi5 hz5 hs5 hb5 _ _ _ rfl (hown.alloc _) ⟨wq3.heap.size, 0, none⟩ 1 xb rfl (cell_new1 _ _) (by omega) (by simp; omega) ?_; intro v' w5 hown' hgrow')
            have hb' := (hb.alloc (by omega) (.cells #[Value.int .u8 (xb.toNat : Int)] 5)).grown hgrow' (by simp; omega) (fun k e => (hown.lt k e).1)
            refine ⟨⟨1, n' + 1, l' ++ [xb], by omega, by first | rfl | simp, hown', ?_, by omega, by omega, hb'⟩, by simp [intOf]⟩
            show _ = _
            rw [HL2.out, ← HXE.out, List.append_assoc]
            rfl
          · subst e
            have hx : bits .and .i64 ((m : Int) / 281474976710656) 255 = ((UInt8.ofNat (m >>> 48)).toNat : Int) := size_byte m 48 (by omega)
            have hw8 := wrap8 (UInt8.ofNat (m >>> 48))
            generalize hxe : UInt8.ofNat (m >>> 48) = xb at *
            have HXE := Lib.hid hxe
            clear hxe
            go_wp2_with (at_builtin; refine wpList_append_brow rfl _ _ 30 rfl (w.heap.size + 1) i5 Tryd.underlying30 hi5 hz5 hs5 hb5 _ _ _ rfl (hown.alloc _) ⟨wq3.heap.size, 0, none⟩ 1 xb rfl (cell_new1 _ _) (by omega) (by simp; omega) ?_; intro v' w5 hown' hgrow')
            have hb' := (hb.alloc (by omega) (.cells #[Value.int .u8 (xb.toNat : Int)] 5)).grown hgrow' (by simp; omega) (fun k e => (hown.lt k e).1)
            refine ⟨⟨2, n' + 1, l' ++ [xb], by omega, by first | rfl | simp, hown', ?_, by omega, by omega, hb'⟩, by simp [intOf]⟩
            show _ = _
            rw [HL2.out, ← HXE.out, List.append_assoc]
            rfl
          · subst e
            have hx : bits .and .i64 ((m : Int) / 1099511627776) 255 = ((UInt8.ofNat (m >>> 40)).toNat : Int) := size_byte m 40 (by omega)
            have hw8 := wrap8 (UInt8.ofNat (m >>> 40))
            generalize hxe : UInt8.ofNat (m >>> 40) = xb at *
            have HXE := Lib.hid hxe
            clear hxe
            go_wp2_with (at_builtin; refine wpList_append_brow rfl _ _ 30 rfl (w.heap.size + 1) i5 Tryd.underlying30 hi5 hz5 hs5 hb5 _ _ _ rfl (hown.alloc _) ⟨wq3.heap.size, 0, none⟩ 1 xb rfl (cell_new1 _ _) (by omega) (by simp; omega) ?_; intro v' w5 hown' hgrow')
            have hb' := (hb.alloc (by omega) (.cells #[Value.int .u8 (xb.toNat : Int)] 5)).grown hgrow' (by simp; omega) (fun k e => (hown.lt k e).1)
            refine ⟨⟨3, n' + 1, l' ++ [xb], by omega, by first | rfl | simp, hown', ?_, by omega, by omega, hb'⟩, by simp [intOf]⟩
            show _ = _
            rw [HL2.out, ← HXE.out, List.append_assoc]
            rfl
          · subst e
            have hx : bits .and .i64 ((m : Int) / 4294967296) 255 = ((UInt8.ofNat (m >>> 32)).toNat : Int) := size_byte m 32 (by omega)
            have hw8 := wrap8 (UInt8.ofNat (m >>> 32))
            generalize hxe : UInt8.ofNat (m >>> 32) = xb at *
            have HXE := Lib.hid hxe
            clear hxe
            go_wp2_with (at_builtin; refine wpList_append_brow rfl _ _ 30 rfl (w.heap.size + 1) i5 Tryd.underlying30 hi5 hz5 hs5 hb5 _ _ _ rfl (hown.alloc _) ⟨wq3.heap.size, 0, none⟩ 1 xb rfl (cell_new1 _ _) (by omega) (by simp; omega) ?_; intro v' w5 hown' hgrow')
            have hb' := (hb.alloc (by omega) (.cells #[Value.int .u8 (xb.toNat : Int)] 5)).grown hgrow' (by simp; omega) (fun k e => (hown.lt k e).1)
            refine ⟨⟨4, n' + 1, l' ++ [xb], by omega, by first | rfl | simp, hown', ?_, by omega, by omega, hb'⟩, by simp [intOf]⟩
            show _ = _
            rw [HL2.out, ← HXE.out, List.append_assoc]
            rfl
          · subst e
            have hx : bits .and .i64 ((m : Int) / 16777216) 255 = ((UInt8.ofNat (m >>> 24)).toNat : Int) := size_byte m 24 (by omega)
            have hw8 := wrap8 (UInt8.ofNat (m >>> 24))
            generalize hxe : UInt8.ofNat (m >>> 24) = xb at *
            have HXE := Lib.hid hxe
            clear hxe
            go_wp2_with (at_builtin; refine wpList_append_brow rfl _ _ 30 rfl (w.heap.size + 1) i5 Tryd.underlying30 hi5 hz5 hs5 hb5 _ _ _ rfl (hown.alloc _) ⟨wq3.heap.size, 0, none⟩ 1 xb rfl (cell_new1 _ _) (by omega) (by simp; omega) ?_; intro v' w5 hown' hgrow')
            have hb' := (hb.alloc (by omega) (.cells #[Value.int .u8 (xb.toNat : Int)] 5)).grown hgrow' (by simp; omega) (fun k e => (hown.lt k e).1)
            refine ⟨⟨5, n' + 1, l' ++ [xb], by omega, by first | rfl | simp, hown', ?_, by omega, by omega, hb'⟩, by simp [intOf]⟩
            show _ = _
            rw [HL2.out, ← HXE.out, List.append_assoc]
            rfl
          · subst e
            have hx : bits .and .i64 ((m : Int) / 65536) 255 = ((UInt8.ofNat (m >>> 16)).toNat : Int) := size_byte m 16 (by omega)
            have hw8 := wrap8 (UInt8.ofNat (m >>> 16))
            generalize hxe : UInt8.ofNat (m >>> 16) = xb at *
            have HXE := Lib.hid hxe
            clear hxe
            go_wp2_with (at_builtin; refine wpList_append_brow rfl _ _ 30 rfl (w.heap.size + 1) i5 Tryd.underlying30 hi5 hz5 hs5 hb5 _ _ _ rfl (hown.alloc _) ⟨wq3.heap.size, 0, none⟩ 1 xb rfl (cell_new1 _ _) (by omega) (by simp; omega) ?_; intro v' w5 hown' hgrow')
            have hb' := (hb.alloc (by omega) (.cells #[Value.int .u8 (xb.toNat : Int)] 5)).grown hgrow' (by simp; omega) (fun k e => (hown.lt k e).1)
            refine ⟨⟨6, n' + 1, l' ++ [xb], by omega, by first | rfl | simp, hown', ?_, by omega, by omega, hb'⟩, by simp [intOf]⟩
            show _ = _
            rw [HL2.out, ← HXE.out, List.append_assoc]
            rfl
          · subst e
            have hx : bits .and .i64 ((m : Int) / 256) 255 = ((UInt8.ofNat (m >>> 8)).toNat : Int) := size_byte m 8 (by omega)
            have hw8 := wrap8 (UInt8.ofNat (m >>> 8))
            generalize hxe : UInt8.ofNat (m >>> 8) = xb at *
            have HXE := Lib.hid hxe
            clear hxe
            go_wp2_with (at_builtin; refine wpList_append_brow rfl _ _ 30 rfl (w.heap.size + 1) i5 Tryd.underlying30 hi5 hz5 hs5 hb5 _ _ _ rfl (hown.alloc _) ⟨wq3.heap.size, 0, none⟩ 1 xb rfl (cell_new1 _ _) (by omega) (by simp; omega) ?_; intro v' w5 hown' hgrow')
            have hb' := (hb.alloc (by omega) (.cells #[Value.int .u8 (xb.toNat : Int)] 5)).grown hgrow' (by simp; omega) (fun k e => (hown.lt k e).1)
            refine ⟨⟨7, n' + 1, l' ++ [xb], by omega, by first | rfl | simp, hown', ?_, by omega, by omega, hb'⟩, by simp [intOf]⟩
            show _ = _
            rw [HL2.out, ← HXE.out, List.append_assoc]
            rfl
          · subst e
            have hx : bits .and .i64 ((m : Int)) 255 = ((UInt8.ofNat (m >>> 0)).toNat : Int) := by have := size_byte m 0 (by omega); simpa using this
            have hw8 := wrap8 (UInt8.ofNat (m >>> 0))
            generalize hxe : UInt8.ofNat (m >>> 0) = xb at *
            have HXE := Lib.hid hxe
            clear hxe
            go_wp2_with (at_builtin; refine wpList_append_brow rfl _ _ 30 rfl (w.heap.size + 1) i5 Tryd.underlying30 hi5 hz5 hs5 hb5 _ _ _ rfl (hown.alloc _) ⟨wq3.heap.size, 0, none⟩ 1 xb rfl (cell_new1 _ _) (by omega) (by simp; omega) ?_; intro v' w5 hown' hgrow')
            have hb' := (hb.alloc (by omega) (.cells #[Value.int .u8 (xb.toNat : Int)] 5)).grown hgrow' (by simp; omega) (fun k e => (hown.lt k e).1)
            refine ⟨⟨8, n' + 1, l' ++ [xb], by omega, by first | rfl | simp, hown', ?_, by omega, by omega, hb'⟩, by simp [intOf]⟩
            show _ = _
            rw [HL2.out, ← HXE.out, List.append_assoc]
            rfl
        · have hj8 : j = 8 := by omega
          subst hj8
          have HL4 : Hid (l' = s.data.toList ++ 128 :: (List.replicate ((119 - s.size % 64) % 64) 0 ++ size8 (8 * s.size))) := by
            show _ = _
            rw [HL2.out, HL1.out, HM.out, show (size8 m).take 8 = size8 m from rfl]; simp
          have hn64 : n' % 64 = 0 := by have := HN56.out; omega
          have hn'2 : n' ≤ 1000200 := by omega
          obtain ⟨g4, c4, e4, hg1, hg2, hlen, _, _, hcells, _⟩ := hown
          obtain ⟨rfl, rfl⟩ : g3 = g4 ∧ c3 = c4 := by simpa using e4
          have HLB : Hid (Lb wq3 g3 l') := ⟨hg2, fun i hi => hcells i (by omega)⟩
          have HL3 : Hid (Lw wq3 w.heap.size init.list) := HL0.out.below hb (by omega)
          have HB3 : Hid (Below w.heap.size w wq3) := HB01.out.trans (hb.mono (by omega))
          have HLEN : Hid (l'.length = n') := hlen.symm
          have HN64 := Lib.hid hn64
          clear e4 hg1 hg2 hlen hcells hb hbz HL2 HL1 hn1 hn2 hlt hj hn64 HL0 HB01 hz1 hz2 hm hm8 hnm hq
          rw [show (7 : Int) - ((8 : Nat) : Int) = -1 from rfl]
          go_wp2_with fail
          go_loopw [3, 7] (fun v sh wz => ∃ (t p g c : Nat), p ≤ n' ∧ Hid (p = 64 * t) ∧ sh = .int .i64 (p : Int) ∧ v = .slice (some ⟨g, 0, none⟩) 8 c ∧ Hid (Lw wz g (blocks t init l').list) ∧ Below wq3.heap.size wq3 wz)
            (fun _ sh _ => (n' - intOf sh).toNat)
          case atStart => exact ⟨0, 0, w.heap.size, 8, by omega, by rfl, rfl, rfl, HL3, Below.refl _ _⟩
          case round =>
            obtain ⟨t, p, g, c, hp, HP, rfl, rfl, HLW, hb⟩ := hrel
            obtain ⟨wq4, rfl⟩ : ∃ wq4 : World, wq4 = wr := ⟨_, rfl⟩
            have hbz := hb.size
            by_cases hlt : p < n'
            · have hp64 : p + 64 ≤ n' := by have := HP.out; have := HN64.out; omega
              go_wp2_with fail
              refine (rblock_any g c g3 n' c3 p (blocks t init l') l' wq4 HLW.out (HLB.out.below hb HLB.out.1) HLEN.out hp64 (by omega)).mono ?_
              rintro e w6 ⟨g6, c6, rfl, hlw6, hb6⟩
              have HLW6 : Hid (Lw w6 g6 (blocks (t + 1) init l').list) := by
                show Lw _ _ _
                rw [blocks_succ, ← HP.out]
                exact hlw6
              have hb7 := hb.trans (hb6.mono hbz)
              clear hlw6
              go_wp2_with fail
              exact ⟨⟨t + 1, p + 64, g6, c6, by omega, (by show _ = _; rw [HP.out]; omega), by go_num, rfl, HLW6, hb7⟩, by simp [intOf]; omega⟩
            · have hpn : p = n' := by omega
              subst hpn
              obtain ⟨S, HS⟩ : ∃ S, Hid (S = blocks t init l') := ⟨_, rfl⟩
              have HLS : Hid (Lw wq4 g S.list) := by rw [HS.out]; exact HLW
              have HB4 : Hid (Below w.heap.size w wq4) := HB3.out.trans (hb.mono HB3.out.size)
              clear hlt HLW hb hbz
              go_wp2_with fail
              go_loopw [8, 9] (fun v sh wz => ∃ (i n5 : Nat) (l5 : List UInt8), i ≤ 8 ∧ sh = .int .i64 (i : Int) ∧ wz.ownsRow wq4.heap.size 5 1 v n5 (bc l5) ∧ Hid (l5 = (S.list.take i).flatMap bytes4) ∧ Hid (n5 = 4 * i) ∧ n5 ≤ 32 ∧ Below wq4.heap.size wq4 wz)
                (fun _ sh _ => (8 - intOf sh).toNat)
              case atStart => exact ⟨0, 0, [], by omega, rfl, World.ownsRow_nil _ _ _ _, by rfl, by rfl, by omega, Below.refl _ _⟩
              case round =>
                obtain ⟨i, n5, l5, hi, rfl, hown, HL5, HN5, hn5, hb⟩ := hrel
                obtain ⟨wq5, rfl⟩ : ∃ wq5 : World, wq5 = wr := ⟨_, rfl⟩
                have hbz := hb.size
                by_cases hlt : i < 8
                · have hcell := (HLS.out.next hb).2 i hlt
                  have HNX : Hid ((S.list.take (i + 1)).flatMap bytes4 = (S.list.take i).flatMap bytes4 ++ bytes4 (S.list.getD i 0)) := by
                    show _ = _
                    rw [List.take_succ_eq_append_getElem hlt, List.flatMap_append]
                    congr 1
                    rw [List.getD_eq_getElem?_getD, List.getElem?_eq_getElem hlt]
                    simp
                  generalize S.list.getD i 0 = x at *
                  have x0 := wn_nonneg x
                  have i0 : (0 : Int) ≤ (i : Int) := by omega
                  have i1 : (i : Int) < 8 := by omega
                  obtain ⟨hi5, hz5, hs5, hb5⟩ := HI.out
                  go_wp2_with (at_builtin; refine wpList_append_own _ rfl _ _ 30 rfl wq4.heap.size 5 i5 (.int .u8 0) 1 1 Tryd.underlying30 hi5 hz5 hs5 hb5 rfl (by decide) _ _ _ rfl (hown.alloc _) ⟨wq5.heap.size, 0, none⟩ 4 4 [_, _, _, _] rfl rfl (cells_new _ [_, _, _, _] _) (by simp [Value.oneCell']) (by unfold maxLen; omega) (by omega) (by simp; omega) ?_; intro v' w5 hown' hgrow' _)
                  have hb' := (hb.alloc hbz _).grown hgrow' (by simp; omega) (fun k e => (hown.lt k e).1)
                  have hown2 : w5.ownsRow wq4.heap.size 5 1 v' (n5 + 4) (bc (l5 ++ bytes4 x)) := by
                    simpa [bc, bytes4, shr24, shr16, shr8, l_and255, wrap8, mod8] using hown'
                  refine ⟨⟨i + 1, n5 + 4, _, by omega, by go_num, hown2, ?_, (by show _ = _; rw [HN5.out]; omega), by have := HN5.out; omega, hb'⟩, by simp [intOf]; omega⟩
                  show _ = _
                  rw [HNX.out, HL5.out]
                · have hi8 : i = 8 := by omega
                  subst hi8
                  have hcv := own_str hown
                  have HF : Hid (sumL s.data.toList = l5) := by
                    show _ = _
                    rw [sum_close (s := s.data.toList) (r := s.data.toList) (l := l') (k := 0) (m := t) (S := S) rfl (by simp) HL4.out (by rw [HLEN.out, HP.out]) HS.out.symm, HL5.out]
                    rfl
                  go_wp2_with fail
                  exact bodyPost_ret (results_tmp rfl _ _ _) rfl ⟨by rw [HF.out]; rfl, HB4.out.trans (hb.mono HB4.out.size)⟩
end Go.Proofs.YtejckicjfmhhoaaDoor

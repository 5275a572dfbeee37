/- DigestHexes returns true, where the plain laws hold. -/
import Derived.Test.YtejckicjfmhhoaaDoorSmall
namespace Go.Proofs.YtejckicjfmhhoaaDoor
open Go.RowKit Dg

theorem unhex_some (s : ByteArray) (b : List UInt8) (w : World) (hs : s.size ≤ 1000000) (h : unhexL s.data.toList = some b) :
    Calls Tryd.prog 12 #[.string s] w fun e w' => e = .returned (.tuple #[.string ⟨b.toArray⟩, .bool true]) ∧ Below w.heap.size w w' :=
  (unhex_any s w hs).mono fun _ _ ⟨h1, h2⟩ => ⟨by rw [h1, h]; rfl, h2⟩
theorem unhex_none (s : ByteArray) (w : World) (hs : s.size ≤ 1000000) (h : unhexL s.data.toList = none) :
    Calls Tryd.prog 12 #[.string s] w fun e w' => e = .returned (.tuple #[.string ⟨#[]⟩, .bool false]) ∧ Below w.heap.size w w' :=
  (unhex_any s w hs).mono fun _ _ ⟨h1, h2⟩ => ⟨by rw [h1, h]; rfl, h2⟩
theorem unb_some (s : ByteArray) (b : List UInt8) (w : World) (hs : s.size ≤ 1000000) (h : unb32L s.data.toList = some b) :
    Calls Tryd.prog 14 #[.string s] w fun e w' => e = .returned (.tuple #[.string ⟨b.toArray⟩, .bool true]) ∧ Below w.heap.size w w' :=
  (unb_any s w hs).mono fun _ _ ⟨h1, h2⟩ => ⟨by rw [h1, h]; rfl, h2⟩
theorem unb_none (s : ByteArray) (w : World) (hs : s.size ≤ 1000000) (h : unb32L s.data.toList = none) :
    Calls Tryd.prog 14 #[.string s] w fun e w' => e = .returned (.tuple #[.string ⟨#[]⟩, .bool false]) ∧ Below w.heap.size w w' :=
  (unb_any s w hs).mono fun _ _ ⟨h1, h2⟩ => ⟨by rw [h1, h]; rfl, h2⟩

theorem base_eq (l h : List UInt8) (w : World) (hs : l.length ≤ 1000000) (e1 : b32L l = h) : Calls Tryd.prog 13 #[.string ⟨l.toArray⟩] w fun e w' => e = .returned (.string ⟨h.toArray⟩) ∧ Below w.heap.size w w' :=
  (base_any _ w (by rw [mk_size]; exact hs)).mono fun _ _ ⟨h1, h2⟩ => ⟨by rw [h1]; show Ending.returned (.string ⟨(b32L l).toArray⟩) = _; rw [e1], h2⟩
theorem hex_eq (l h : List UInt8) (w : World) (hs : l.length ≤ 1000000) (e1 : hexL l = h) : Calls Tryd.prog 11 #[.string ⟨l.toArray⟩] w fun e w' => e = .returned (.string ⟨h.toArray⟩) ∧ Below w.heap.size w w' :=
  (hex_any _ w (by rw [mk_size]; exact hs)).mono fun _ _ ⟨h1, h2⟩ => ⟨by rw [h1]; show Ending.returned (.string ⟨(hexL l).toArray⟩) = _; rw [e1], h2⟩

/-- What small does, as a fact. -/
def Good (w : World) : Prop := KT w ∧ 0 < w.heap.size
theorem Good.next {w w' : World} (h : Good w) (hb : Below w.heap.size w w') : Good w' := ⟨h.1.below hb h.2, Nat.lt_of_lt_of_le h.2 hb.size⟩

set_option maxRecDepth 100000 in
theorem hexes_big (s h : ByteArray) (w : World) (hG : Good w) (hbig : 2000 < s.size ∨ 2000 < h.size) : Calls Tryd.prog 3 #[.string s, .string h] w fun e w' => e = .returned (.bool true) ∧ Below w.heap.size w w' := by
  go_enter Tryd.func3, Tryd.ntmps3
  go_wp2_with fail
  refine (small_any w hG.1 hG.2).mono ?_
  rintro e w1 ⟨rfl, hb1⟩
  by_cases h1 : 2000 < s.size
  · go_wp2_with fail
    refine bodyPost_ret (results_tmp rfl _ _ _) rfl ⟨rfl, hb1⟩
  · have h2 : 2000 < h.size := by omega
    go_wp2_with fail
    refine bodyPost_ret (results_tmp rfl _ _ _) rfl ⟨rfl, hb1⟩

theorem nil_size : (ByteArray.mk #[]).size = 0 := rfl

set_option maxRecDepth 100000 in
set_option maxHeartbeats 1000000 in
theorem hexes_any (s h : ByteArray) (w : World) (hG : Good w) (h1 : s.size ≤ 2000) (h2 : h.size ≤ 2000)
    (A : unhexL (hexL s.data.toList) = some s.data.toList) (B : ∀ b, unhexL h.data.toList = some b → hexL b = h.data.toList ∧ b.length ≤ 1000000)
    (C : (b32L s.data.toList).length = (8 * s.size + 4) / 5) (D : unb32L (b32L s.data.toList) = some s.data.toList) (E : ∀ d, unb32L h.data.toList = some d → b32L d = h.data.toList ∧ d.length ≤ 1000000) (F : (hexL s.data.toList).length = 2 * s.size) :
    Calls Tryd.prog 3 #[.string s, .string h] w fun e w' => e = .returned (.bool true) ∧ Below w.heap.size w w' := by
  go_enter Tryd.func3, Tryd.ntmps3
  go_wp2_with fail
  refine (small_any w hG.1 hG.2).mono ?_
  rintro e w1 ⟨rfl, hb1⟩
  go_wp2_with fail
  refine (hex_any s w1 (by omega)).mono ?_
  rintro e w2 ⟨rfl, hb2⟩
  replace hb2 := hb1.trans (hb2.mono hb1.size)
  clear hb1
  go_wp2_with fail
  have A' := Lib.hid A
  have C' := Lib.hid C
  have D' := Lib.hid D
  have F' := Lib.hid F
  clear A C D F
  refine (unhex_some _ s.data.toList w2 (by rw [mk_size, F'.out]; omega) A'.out).mono ?_
  rintro e w3 ⟨rfl, hb3⟩
  replace hb3 := hb2.trans (hb3.mono hb2.size)
  clear hb2
  have F := F'.out
  have C := C'.out
  generalize hexL s.data.toList = X at *
  generalize hY : b32L s.data.toList = Y at *
  rcases hu : unhexL h.data.toList with _ | b
  · rcases hv : unb32L h.data.toList with _ | d
    · go_wp2_with fail
      refine (unhex_none _ _ (by omega) hu).mono ?_
      rintro e w4 ⟨rfl, hb4⟩
      replace hb4 := hb3.trans (hb4.mono hb3.size)
      clear hb3
      go_wp2_with fail
      refine (base_any _ _ (by omega)).mono ?_
      rintro e w5 ⟨rfl, hb5⟩
      rw [hY]
      replace hb5 := hb4.trans (hb5.mono hb4.size)
      clear hb4
      go_wp2_with fail
      refine (unb_some _ s.data.toList _ (by rw [mk_size]; omega) D'.out).mono ?_
      rintro e w6 ⟨rfl, hb6⟩
      replace hb6 := hb5.trans (hb6.mono hb5.size)
      clear hb5
      go_wp2_with fail
      refine (unb_none _ _ (by omega) hv).mono ?_
      rintro e w7 ⟨rfl, hb7⟩
      replace hb7 := hb6.trans (hb7.mono hb6.size)
      clear hb6
      go_wp2_with fail
      refine bodyPost_ret (results_tmp rfl _ _ _) rfl ⟨rfl, hb7⟩
    · obtain ⟨hE1, hE2⟩ := E d hv
      go_wp2_with fail
      refine (unhex_none _ _ (by omega) hu).mono ?_
      rintro e w4 ⟨rfl, hb4⟩
      replace hb4 := hb3.trans (hb4.mono hb3.size)
      clear hb3
      go_wp2_with fail
      refine (base_any _ _ (by omega)).mono ?_
      rintro e w5 ⟨rfl, hb5⟩
      rw [hY]
      replace hb5 := hb4.trans (hb5.mono hb4.size)
      clear hb4
      go_wp2_with fail
      refine (unb_some _ s.data.toList _ (by rw [mk_size]; omega) D'.out).mono ?_
      rintro e w6 ⟨rfl, hb6⟩
      replace hb6 := hb5.trans (hb6.mono hb5.size)
      clear hb5
      go_wp2_with fail
      refine (unb_some _ d _ (by omega) hv).mono ?_
      rintro e w7 ⟨rfl, hb7⟩
      replace hb7 := hb6.trans (hb7.mono hb6.size)
      clear hb6
      go_wp2_with fail
      refine (base_eq d _ _ hE2 hE1).mono ?_
      rintro e w8 ⟨rfl, hb8⟩
      replace hb8 := hb7.trans (hb8.mono hb7.size)
      go_wp2_with fail
      refine bodyPost_ret (results_tmp rfl _ _ _) rfl ⟨rfl, hb8⟩
  · rcases hv : unb32L h.data.toList with _ | d
    · obtain ⟨hB1, hB2⟩ := B b hu
      go_wp2_with fail
      refine (unhex_some _ b _ (by omega) hu).mono ?_
      rintro e w4 ⟨rfl, hb4⟩
      replace hb4 := hb3.trans (hb4.mono hb3.size)
      clear hb3
      go_wp2_with fail
      refine (base_any _ _ (by omega)).mono ?_
      rintro e w5 ⟨rfl, hb5⟩
      rw [hY]
      replace hb5 := hb4.trans (hb5.mono hb4.size)
      clear hb4
      go_wp2_with fail
      refine (unb_some _ s.data.toList _ (by rw [mk_size]; omega) D'.out).mono ?_
      rintro e w6 ⟨rfl, hb6⟩
      replace hb6 := hb5.trans (hb6.mono hb5.size)
      clear hb5
      go_wp2_with fail
      refine (unb_none _ _ (by omega) hv).mono ?_
      rintro e w7 ⟨rfl, hb7⟩
      replace hb7 := hb6.trans (hb7.mono hb6.size)
      clear hb6
      go_wp2_with fail
      refine (hex_eq b _ _ hB2 hB1).mono ?_
      rintro e w8 ⟨rfl, hb8⟩
      replace hb8 := hb7.trans (hb8.mono hb7.size)
      go_wp2_with fail
      refine bodyPost_ret (results_tmp rfl _ _ _) rfl ⟨rfl, hb8⟩
    · obtain ⟨hB1, hB2⟩ := B b hu
      obtain ⟨hE1, hE2⟩ := E d hv
      go_wp2_with fail
      refine (unhex_some _ b _ (by omega) hu).mono ?_
      rintro e w4 ⟨rfl, hb4⟩
      replace hb4 := hb3.trans (hb4.mono hb3.size)
      clear hb3
      go_wp2_with fail
      refine (base_any _ _ (by omega)).mono ?_
      rintro e w5 ⟨rfl, hb5⟩
      rw [hY]
      replace hb5 := hb4.trans (hb5.mono hb4.size)
      clear hb4
      go_wp2_with fail
      refine (unb_some _ s.data.toList _ (by rw [mk_size]; omega) D'.out).mono ?_
      rintro e w6 ⟨rfl, hb6⟩
      replace hb6 := hb5.trans (hb6.mono hb5.size)
      clear hb5
      go_wp2_with fail
      refine (unb_some _ d _ (by omega) hv).mono ?_
      rintro e w7 ⟨rfl, hb7⟩
      replace hb7 := hb6.trans (hb7.mono hb6.size)
      clear hb6
      go_wp2_with fail
      refine (base_eq d _ _ hE2 hE1).mono ?_
      rintro e w8 ⟨rfl, hb8⟩
      replace hb8 := hb7.trans (hb8.mono hb7.size)
      go_wp2_with fail
      refine (hex_eq b _ _ hB2 hB1).mono ?_
      rintro e w9 ⟨rfl, hb9⟩
      replace hb9 := hb8.trans (hb9.mono hb8.size)
      go_wp2_with fail
      refine bodyPost_ret (results_tmp rfl _ _ _) rfl ⟨rfl, hb9⟩
end Go.Proofs.YtejckicjfmhhoaaDoor

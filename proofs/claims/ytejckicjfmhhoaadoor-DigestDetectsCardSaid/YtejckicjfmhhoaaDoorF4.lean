/- DigestDetects returns true. -/
import Derived.Test.YtejckicjfmhhoaaDoorFlip
namespace Go.Proofs.YtejckicjfmhhoaaDoor
open Go.RowKit Dg

set_option maxRecDepth 100000 in
theorem detects_big (s : ByteArray) (b p : Int) (w : World) (hG : Good w) (hbig : 2000 < s.size ∨ b < 0 ∨ 8 * (s.size : Int) ≤ b) : Calls Tryd.prog 4 #[.string s, .int .i64 b, .int .i64 p] w fun e w' => e = .returned (.bool true) ∧ Below w.heap.size w w' := by
  go_enter Tryd.func4, Tryd.ntmps4
  go_wp2_with fail
  refine (small_any w hG.1 hG.2).mono ?_
  rintro e w1 ⟨rfl, hb1⟩
  by_cases h1 : 2000 < s.size
  · go_wp2_with fail
    refine bodyPost_ret (results_tmp rfl _ _ _) rfl ⟨rfl, hb1⟩
  · by_cases h2 : b < 0
    · go_wp2_with fail
      refine bodyPost_ret (results_tmp rfl _ _ _) rfl ⟨rfl, hb1⟩
    · have h3 : 8 * (s.size : Int) ≤ b := by omega
      go_wp2_with fail
      refine bodyPost_ret (results_tmp rfl _ _ _) rfl ⟨rfl, hb1⟩

theorem crc_of (l : List UInt8) (w : World) (hs : l.length ≤ 1000000) : Calls Tryd.prog 16 #[.string ⟨l.toArray⟩] w fun e w' => e = .returned (.int .i64 (wn (crc l))) ∧ w' = w :=
  crc_any ⟨l.toArray⟩ w (by rw [mk_size]; exact hs)

set_option maxRecDepth 100000 in
theorem detects_any (s : ByteArray) (b : Nat) (p : Int) (w : World) (hG : Good w) (h1 : s.size ≤ 2000) (h2 : b < 8 * s.size) :
    Calls Tryd.prog 4 #[.string s, .int .i64 (b : Int), .int .i64 p] w fun e w' => e = .returned (.bool true) ∧ Below w.heap.size w w' := by
  go_enter Tryd.func4, Tryd.ntmps4
  go_wp2_with fail
  refine (small_any w hG.1 hG.2).mono ?_
  rintro e w1 ⟨rfl, hb1⟩
  go_wp2_with fail
  refine (flipped_any s b p w1 h1 h2).mono ?_
  rintro e w2 ⟨rfl, hb2⟩
  replace hb2 := hb1.trans (hb2.mono hb1.size)
  clear hb1
  have hdet := detects (pat p) b s.data.toList
  have hlen := flipN_length (pat p) b s.data.toList 32
  generalize flipN (pat p) b s.data.toList 32 = t at *
  have HLEN := Lib.hid hlen
  have hl5 : t.length ≤ 1000000 := by rw [hlen]; show s.size ≤ _; omega
  by_cases he : s.data.toList = t
  · have hq : (s.toList == t) = true := by rw [Lib.toList_data, he]; simp
    subst he
    clear hlen hdet
    go_wp2_with fail
    refine (crc_any s _ (by omega)).mono ?_
    rintro e w3 ⟨rfl, rfl⟩
    go_wp2_with fail
    refine (crc_of s.data.toList _ hl5).mono ?_
    rintro e w4 ⟨rfl, rfl⟩
    go_wp2_with fail
    exact bodyPost_ret (results_tmp rfl _ _ _) rfl ⟨rfl, hb2⟩
  · have hq : (s.toList == t) = false := by rw [Lib.toList_data]; simpa using he
    have hc : (wn (crc s.data.toList) == wn (crc t)) = false := by
      simp only [beq_eq_false_iff_ne, ne_eq]
      intro h; exact he (hdet (wn_inj h))
    clear hlen hdet he
    go_wp2_with fail
    refine (crc_any s _ (by omega)).mono ?_
    rintro e w3 ⟨rfl, rfl⟩
    go_wp2_with fail
    refine (crc_of t _ hl5).mono ?_
    rintro e w4 ⟨rfl, rfl⟩
    go_wp2_with fail
    exact bodyPost_ret (results_tmp rfl _ _ _) rfl ⟨rfl, hb2⟩
end Go.Proofs.YtejckicjfmhhoaaDoor

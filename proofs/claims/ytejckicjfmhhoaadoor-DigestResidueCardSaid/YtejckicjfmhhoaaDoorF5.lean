/- DigestResidue returns true, where the plain laws hold. -/
import Derived.Test.YtejckicjfmhhoaaDoorF3
import Derived.Test.YtejckicjfmhhoaaDoorLin
namespace Go.Proofs.YtejckicjfmhhoaaDoor
open Go.RowKit Dg



theorem conv4 (w : World) (R : Word) (n : Nat) (hn : wn R = (n : Int)) : (convert 30 9 (.slice (some ⟨w.heap.size, 0, none⟩) 4 4)).run Tryd.prog (w.alloc (.cells #[.int .u8 ((n : Int) % 256), .int .u8 ((n : Int) / 256 % 256), .int .u8 ((n : Int) / 65536 % 256), .int .u8 ((n : Int) / 16777216)] 5)) =
    .ok (.string ⟨(le4 R).toArray⟩) (w.alloc (.cells #[.int .u8 ((n : Int) % 256), .int .u8 ((n : Int) / 256 % 256), .int .u8 ((n : Int) / 65536 % 256), .int .u8 ((n : Int) / 16777216)] 5)) := by
  have h3 : (n : Int) / 16777216 = (n : Int) / 16777216 % 256 := by have := wn_lt R; omega
  rw [h3, ← hn, shr_w R 24 16777216 rfl, shr_w R 16 65536 rfl, shr_w R 8 256 rfl, lo_w, lo_w, lo_w, lo_w]
  have hg := heap_alloc_new w (.cells #[.int .u8 ((lo R).toNat : Int), .int .u8 ((lo (Dg.wr R 8)).toNat : Int), .int .u8 ((lo (Dg.wr R 16)).toNat : Int), .int .u8 ((lo (Dg.wr R 24)).toNat : Int)] 5)
  have hrow : BRow (w.alloc (.cells #[.int .u8 ((lo R).toNat : Int), .int .u8 ((lo (Dg.wr R 8)).toNat : Int), .int .u8 ((lo (Dg.wr R 16)).toNat : Int), .int .u8 ((lo (Dg.wr R 24)).toNat : Int)] 5)) w.heap.size 5 (le4 R) := hg
  exact run_convert_bytes_back _ 30 9 5 ⟨w.heap.size, 0, none⟩ 4 (le4 R) Tryd.underlying30 Tryd.underlying5 Tryd.underlying9 fun j hj => by
    have ea : (⟨w.heap.size, 0, none⟩ : Addr).add j = ⟨w.heap.size, j, none⟩ := by
      unfold Addr.add
      split
      · rename_i e; subst e; rfl
      · simp
    rw [ea, hrow.cellD hj, List.getD_eq_getElem?_getD, List.getElem?_eq_getElem hj]
    rfl

theorem crc_res (s : ByteArray) (w : World) (hs : s.size ≤ 2000) : Calls Tryd.prog 16 #[.string (s ++ ⟨(le4 (crc s.data.toList)).toArray⟩)] w fun e w' => e = .returned (.int .i64 558161692) ∧ w' = w :=
  (crc_any _ w (by rw [ByteArray.size_append, mk_size (le4 _), show (le4 (crc s.data.toList)).length = 4 from rfl]; omega)).mono fun _ _ ⟨h1, h2⟩ => ⟨by
    rw [h1, ByteArray.data_append]
    simp only [Array.toList_append]
    rw [crc_residue]
    rfl, h2⟩

set_option maxRecDepth 100000 in
theorem residue_big (s : ByteArray) (w : World) (hG : Good w) (h1 : 2000 < s.size) : Calls Tryd.prog 5 #[.string s] w fun e w' => e = .returned (.bool true) ∧ Below w.heap.size w w' := by
  go_enter Tryd.func5, Tryd.ntmps5
  go_wp2_with fail
  refine (small_any w hG.1 hG.2).mono ?_
  rintro e w1 ⟨rfl, hb1⟩
  go_wp2_with fail
  refine bodyPost_ret (results_tmp rfl _ _ _) rfl ⟨rfl, hb1⟩

set_option maxRecDepth 100000 in
theorem residue_any (s : ByteArray) (w : World) (hG : Good w) (h1 : s.size ≤ 2000) :
    Calls Tryd.prog 5 #[.string s] w fun e w' => e = .returned (.bool true) ∧ Below w.heap.size w w' := by
  go_enter Tryd.func5, Tryd.ntmps5
  go_wp2_with fail
  refine (small_any w hG.1 hG.2).mono ?_
  rintro e w1 ⟨rfl, hb1⟩
  go_wp2_with fail
  refine (crc_any s w1 (by omega)).mono ?_
  rintro e w2 ⟨rfl, rfl⟩
  generalize hR : crc s.data.toList = R
  have hr0 := wn_nonneg R
  have hr1 := wn_lt R
  obtain ⟨n, hn⟩ : ∃ n : Nat, wn R = (n : Int) := ⟨R.toNat, rfl⟩
  rw [hn] at hr0 hr1
  rw [hn]
  have hn1 : n < 4294967296 := by omega
  have HN := Lib.hid hn
  clear hn hr0 hr1
  have hcv := conv4 w2 R n HN.out
  have hl4 : (le4 R).length = 4 := rfl
  go_wp2_with fail
  subst hR
  refine (crc_res s _ h1).mono ?_
  rintro e w3 ⟨rfl, rfl⟩
  go_wp2_with fail
  refine bodyPost_ret (results_tmp rfl _ _ _) rfl ⟨rfl, hb1.alloc hb1.size _⟩
end Go.Proofs.YtejckicjfmhhoaaDoor

/- What flipped returns. -/
import Derived.Test.YtejckicjfmhhoaaDoorF3
import Derived.Test.YtejckicjfmhhoaaDoorDet
import Derived.Lib.ConvBytes
import Derived.Deep.RegionLaw
namespace Go.Proofs.YtejckicjfmhhoaaDoor
open Go.RowKit Dg

/-- Block g begins with these bytes. -/
def Bytes (w : World) (g : Nat) (l : List UInt8) : Prop := ∃ cs lo hi, w.heap[g]? = some (.cells cs 5 (lo, hi)) ∧ l.length ≤ cs.size ∧ l.length ≤ lo ∧ ∀ i, i < l.length → cs[i]? = some (.int .u8 ((l.getD i 0).toNat : Int))
theorem Bytes.cell {w : World} {g : Nat} {l : List UInt8} (h : Bytes w g l) {i : Nat} (hi : i < l.length) : w.cell? ⟨g, i, none⟩ = some (.int .u8 ((l.getD i 0).toNat : Int)) := by
  obtain ⟨cs, lo, hi', hg, h1, h2, hc⟩ := h
  unfold World.cell?
  rw [hg]
  exact hc i hi
theorem Bytes.frozen {w : World} {g : Nat} {l : List UInt8} (h : Bytes w g l) {i : Nat} (hi : i < l.length) : w.frozen? ⟨g, i, none⟩ = false := by
  obtain ⟨cs, lo, hi', hg, h1, h2, hc⟩ := h
  unfold World.frozen?
  rw [hg]
  simp; omega
theorem Bytes.set {w : World} {g : Nat} {l : List UInt8} (h : Bytes w g l) {i : Nat} (hi : i < l.length) (b : UInt8) : Bytes (w.setCell ⟨g, i, none⟩ (.int .u8 (b.toNat : Int))) g (l.set i b) := by
  obtain ⟨cs, lo, hi', hg, h1, h2, hc⟩ := h
  obtain ⟨hlt, hk⟩ := Array.getElem?_eq_some_iff.1 hg
  refine ⟨cs.setIfInBounds i (.int .u8 (b.toNat : Int)), lo, hi', ?_, by simpa using h1, by simpa using h2, ?_⟩
  · show (w.heap.modify g _)[g]? = _
    rw [Array.getElem?_eq_getElem (by rw [Array.size_modify]; exact hlt), Array.getElem_modify_self, hk]
    rfl
  · intro j hj
    rw [List.length_set] at hj
    by_cases hij : i = j
    · subst hij
      simp [show i < cs.size by omega, hj]
    · have := hc j hj
      rw [Array.getElem?_setIfInBounds]
      simp only [hij, if_false]
      rw [this]
      simp [List.getD_eq_getElem?_getD, List.getElem?_set, hij]

theorem to_bytes (s : ByteArray) (w : World) : ∃ W cap, Bytes W w.heap.size s.data.toList ∧ Below w.heap.size w W ∧ (convert 9 30 (.string s)).run Tryd.prog w = .ok (.slice (some ⟨w.heap.size, 0, none⟩) s.size cap) W := by
  refine ⟨Lib.bytesWorld w 5 s, _, ?_, ?_, Lib.run_convert_string_bytes w 9 30 5 s Tryd.underlying9 Tryd.underlying30 Tryd.underlying5⟩
  · have hsz : s.data.toList.length ≤ (Lib.bytesCells w 5 s).size := by simp [Lib.bytesCells]
    refine ⟨_, _, _, Lib.bytesWorld_at_new w 5 s, hsz, hsz, ?_⟩
    intro i hi
    have := Lib.bytesWorld_cell w 5 s i hi
    unfold World.cell? at this
    rw [Lib.bytesWorld_at_new w 5 s] at this
    exact this
  · refine ⟨rfl, rfl, rfl, by rw [Lib.bytesWorld_size]; omega, fun k hk => Lib.bytesWorld_at_old w 5 s k hk⟩

theorem bytes_str {w : World} {g cap : Nat} {l : List UInt8} (h : Bytes w g l) : (convert 30 9 (.slice (some ⟨g, 0, none⟩) l.length cap)).run Tryd.prog w = .ok (.string ⟨l.toArray⟩) w := by
  refine run_convert_bytes_back w 30 9 5 ⟨g, 0, none⟩ cap l Tryd.underlying30 Tryd.underlying5 Tryd.underlying9 fun j hj => ?_
  have ea : (⟨g, 0, none⟩ : Addr).add j = ⟨g, j, none⟩ := by
    unfold Addr.add
    split
    · rename_i e; subst e; rfl
    · simp
  rw [ea, h.cell hj, List.getD_eq_getElem?_getD, List.getElem?_eq_getElem hj]
  rfl

theorem xor_bit (c : UInt8) (r : Nat) (h : r < 8) : bits .xor .u8 (c.toNat : Int) (IntKind.u8.wrap (2 ^ r)) = ((c ^^^ bitm r).toNat : Int) := by
  have : ∀ d : Fin 8, IntKind.u8.wrap (2 ^ d.val) = ((bitm d.val).toNat : Int) := by decide
  rw [this ⟨r, h⟩, xor_u8]

/-- Does the pattern turn this bit? -/
def pat (p : Int) (k : Nat) : Bool := bits .and .i64 (p / 2 ^ k) 1 == 1

set_option maxRecDepth 100000 in
theorem flipped_any (s : ByteArray) (bit : Nat) (p : Int) (w : World) (hs : s.size ≤ 2000) (hb : bit < 8 * s.size) :
    Calls Tryd.prog 15 #[.string s, .int .i64 (bit : Int), .int .i64 p] w fun e w' => e = .returned (.string ⟨(flipN (pat p) bit s.data.toList 32).toArray⟩) ∧ Below w.heap.size w w' := by
  obtain ⟨W, cap, hB0, hb0, hcv⟩ := to_bytes s w
  go_enter Tryd.func15, Tryd.ntmps15
  go_wp2_with fail
  go_loopw [8] (fun sh wr => ∃ (k : Nat), k ≤ 32 ∧ sh = .int .i64 (k : Int) ∧ Bytes wr w.heap.size (flipN (pat p) bit s.data.toList k) ∧ Below w.heap.size w wr)
    (fun sh _ => (32 - intOf sh).toNat)
  case atStart => exact ⟨0, by omega, rfl, hB0, hb0⟩
  case round =>
    clear hB0 hb0 hcv
    obtain ⟨k, hk, rfl, hB, hbel⟩ := hrel
    obtain ⟨w1, rfl⟩ : ∃ w1 : World, w1 = wr := ⟨_, rfl⟩
    by_cases hlt : k < 32
    · have hlen := flipN_length (pat p) bit s.data.toList k
      have HL := Lib.hid hlen
      clear hlen
      by_cases hin : bit + k < 8 * s.size
      · by_cases hbt : pat p k = true
        · have hbt1 : (bits .and .i64 (p / 2 ^ k) 1 == 1) = true := hbt
          have HF : Hid (flipN (pat p) bit s.data.toList (k + 1) = flip1 (flipN (pat p) bit s.data.toList k) (bit + k)) := by
            show _ = _
            rw [flipN, if_pos (by rw [hbt]; simpa using hin)]
          obtain ⟨q, HQ, hq, hqs⟩ : ∃ q : Nat, Hid ((bit + k) / 8 = q) ∧ ((bit : Int) + k) / 8 = (q : Int) ∧ q < s.size := ⟨(bit + k) / 8, rfl, by omega, by omega⟩
          obtain ⟨r, HR, hr, hr8⟩ : ∃ r : Nat, Hid ((bit + k) % 8 = r) ∧ ((bit : Int) + k) % 8 = (r : Int) ∧ r < 8 := ⟨(bit + k) % 8, rfl, by omega, by omega⟩
          have hqd : IntKind.i64.wrap (((bit : Int) + k).tdiv 8) = (q : Int) := by rw [Int.tdiv_eq_ediv_of_nonneg (by omega), hq]; exact wrap_i64 (by omega) (by omega)
          have hrd : ((bit : Int) + k).tmod 8 = (r : Int) := by rw [Int.tmod_eq_emod_of_nonneg (by omega), hr]
          have hql : q < (flipN (pat p) bit s.data.toList k).length := by rw [HL.out]; exact hqs
          have hc := hB.cell hql
          have hf := hB.frozen hql
          have hset := hB.set hql ((flipN (pat p) bit s.data.toList k).getD q 0 ^^^ bitm r)
          have HF2 : Hid ((flipN (pat p) bit s.data.toList k).set q ((flipN (pat p) bit s.data.toList k).getD q 0 ^^^ bitm r) = flipN (pat p) bit s.data.toList (k + 1)) := by
            show _ = _
            rw [HF.out, flip1, HQ.out, HR.out]
          have hx := xor_bit ((flipN (pat p) bit s.data.toList k).getD q 0) r hr8
          rw [HF2.out] at hset
          generalize (flipN (pat p) bit s.data.toList k).getD q 0 ^^^ bitm r = v at *
          generalize (flipN (pat p) bit s.data.toList k).getD q 0 = c at *
          clear hbt hql HF HF2
          go_wp2_with fail
          go_region_law fail
          all_goals
            go_wp2_with fail
            refine ⟨⟨k + 1, by omega, by go_num, hset, hbel.drew.setCell (Nat.le_refl _) _⟩, by simp [intOf]; omega⟩
        · have hbt1 : (bits .and .i64 (p / 2 ^ k) 1 == 1) = false := by simpa [pat] using hbt
          have HF : Hid (flipN (pat p) bit s.data.toList (k + 1) = flipN (pat p) bit s.data.toList k) := by
            show _ = _
            rw [flipN, if_neg (by simp; intro h; exact absurd h hbt)]
          clear hbt
          go_wp2_with fail
          refine ⟨⟨k + 1, by omega, by go_num, by rw [HF.out]; exact hB, hbel⟩, by simp [intOf]; omega⟩
      · have HF : Hid (flipN (pat p) bit s.data.toList (k + 1) = flipN (pat p) bit s.data.toList k) := by
          show _ = _
          rw [flipN, if_neg (by simp; intro _; show 8 * s.size ≤ bit + k; omega)]
        go_wp2_with fail
        all_goals exact ⟨⟨k + 1, by omega, by go_num, by rw [HF.out]; exact hB, hbel⟩, by simp [intOf]; omega⟩
    · have hk32 : k = 32 := by omega
      subst hk32
      have hcv := bytes_str (cap := cap) hB
      rw [flipN_length] at hcv
      replace hcv : (convert 30 9 (.slice (some ⟨w.heap.size, 0, none⟩) s.size cap)).run Tryd.prog w1 = _ := hcv
      go_wp2_with fail
      exact bodyPost_ret (results_tmp rfl _ _ _) rfl ⟨rfl, hbel⟩
end Go.Proofs.YtejckicjfmhhoaaDoor

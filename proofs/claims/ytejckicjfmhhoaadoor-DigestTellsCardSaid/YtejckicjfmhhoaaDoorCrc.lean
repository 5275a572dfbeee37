/- What Crc returns. -/
import Derived.Test.YtejckicjfmhhoaaDoorProc
import Derived.Lib.Strings
namespace Dg

def poly : Word := 3988292384
def cstep (r : Word) : Word := if wa r 1#32 = 1 then wx (wr r 1) poly else wr r 1
def cbyte (r : Word) (c : UInt8) : Word := iter cstep 8 (wx r (w8 c))
def crcW (r : Word) (s : List UInt8) : Word := s.foldl cbyte r
def crc (s : List UInt8) : Word := wx (crcW 4294967295#32 s) 4294967295#32

end Dg
namespace Go.Proofs.YtejckicjfmhhoaaDoor
open Go.RowKit Dg

theorem shr1 (a : Word) : wn a / 2 = wn (wr a 1) := shr_w a 1 2 rfl
theorem bits_a1 (a : Word) : bits .and .u32 (wn a) 1 = wn (wa a 1#32) := bits_a a 1
theorem bits_xp (a : Word) : bits .xor .u32 (wn a) 3988292384 = wn (wx a poly) := bits_x a poly
theorem bits_xf (a : Word) : bits .xor .u32 (wn a) 4294967295 = wn (wx a 4294967295#32) := bits_x a 4294967295
theorem wrap64_wn (b : Word) : wrap64 (wn b) = wn b := by
  have h1 := wn_nonneg b
  have h2 := wn_lt b
  unfold wrap64
  omega
attribute [local go_sem] wrap64_wn bits_x bits_a bits_o bits_not add_w shr1 bits_a1 bits_xp bits_xf w8_w

theorem crc_step {b : Word} {l : List UInt8} {i : Nat} {c : UInt8} {r : Word} (H : Hid (b = crcW 4294967295#32 (l.take i))) (hc : l[i]? = some c) (hr : Hid (r = iter cstep 8 (wx b (w8 c)))) : Hid (r = crcW 4294967295#32 (l.take (i + 1))) := by
  show _ = _
  rw [hr.out, H.out, List.take_add_one, hc]
  simp [crcW, cbyte]

theorem wn_one {b : Word} : wn b = 1 ↔ b = 1 := ⟨fun h => wn_inj (h.trans rfl), fun h => by rw [h]; rfl⟩

set_option maxRecDepth 100000 in
theorem crc_any (s : ByteArray) (w : World) (hs : s.size ≤ 1000000) :
    Calls Tryd.prog 16 #[.string s] w fun e w' => e = .returned (.int .i64 (wn (crc s.data.toList))) ∧ w' = w := by
  go_enter Tryd.func16, Tryd.ntmps16
  go_wp2_with fail
  go_loopw [3, 8] (fun r sh wr => ∃ (i : Nat) (b : Word), i ≤ s.size ∧ r = .int .u32 (wn b) ∧ sh = .int .i64 (i : Int) ∧ Hid (b = crcW 4294967295#32 (s.data.toList.take i)) ∧ wr = w)
    (fun _ sh _ => (s.size - intOf sh).toNat)
  case atStart => exact ⟨0, 4294967295#32, by omega, rfl, rfl, by rfl, rfl⟩
  case round =>
    obtain ⟨i, b, hi, rfl, rfl, HB, rfl⟩ := hrel
    by_cases hlt : i < s.size
    · have hc : s.data.toList[i]? = some s[i] := by
        rw [List.getElem?_eq_getElem (by simpa using hlt)]
        rfl
      go_wp2_with fail
      go_loopw [3, 17] (fun r sh wz => ∃ (j : Nat) (b' : Word), j ≤ 8 ∧ r = .int .u32 (wn b') ∧ sh = .int .i64 (j : Int) ∧ Hid (b' = iter cstep j (wx b (w8 s[i]))) ∧ wz = wr)
        (fun _ sh _ => (8 - intOf sh).toNat)
      case atStart => exact ⟨0, _, by omega, rfl, rfl, by rfl, rfl⟩
      case round =>
        obtain ⟨j, b', hj, rfl, rfl, HJ, rfl⟩ := hrel
        by_cases hlt2 : j < 8
        · by_cases ho : wn (wa b' 1#32) = 1
          · have ho1 : (wn (wa b' 1#32) == 1) = true := by rw [ho]; rfl
            go_wp2_with fail
            refine ⟨⟨j + 1, wx (Dg.wr b' 1) poly, by omega, by go_num, by go_num, ?_, trivial⟩, by simp [intOf]; omega⟩
            show _ = cstep (iter cstep j _)
            rw [← HJ.out]; unfold cstep; rw [if_pos (wn_one.1 ho)]
          · have ho1 : (wn (wa b' 1#32) == 1) = false := by simpa using ho
            go_wp2_with fail
            refine ⟨⟨j + 1, Dg.wr b' 1, by omega, by go_num, by go_num, ?_, trivial⟩, by simp [intOf]; omega⟩
            show _ = cstep (iter cstep j _)
            rw [← HJ.out]; unfold cstep; rw [if_neg (mt wn_one.2 ho)]
        · have hj8 : j = 8 := by omega
          subst hj8
          have HN := crc_step HB hc HJ
          clear HJ
          go_wp2_with fail
          refine ⟨⟨i + 1, b', by omega, by go_num, by go_num, HN, trivial⟩, by simp [intOf]; omega⟩
    · go_wp2_with fail
      refine bodyPost_ret (v := .int .i64 (wn (wx b 4294967295#32))) (by simp [results, Tryd.f16, go_sem]) rfl ⟨?_, rfl⟩
      rw [show crc s.data.toList = wx b 4294967295#32 from by rw [HB.out, List.take_of_length_le (by simpa using hlt)]; rfl]
end Go.Proofs.YtejckicjfmhhoaaDoor

/- What small returns. -/
import Derived.Test.YtejckicjfmhhoaaDoorMac
import Derived.Test.YtejckicjfmhhoaaDoorCrc
import Derived.Test.YtejckicjfmhhoaaDoorUnb
namespace Go.Proofs.YtejckicjfmhhoaaDoor
open Go.RowKit Dg

theorem vMacHex : hexL (macL [107, 101, 121] [84, 104, 101, 32, 113, 117, 105, 99, 107, 32, 98, 114, 111, 119, 110, 32, 102, 111, 120, 32, 106, 117, 109, 112, 115, 32, 111, 118, 101, 114, 32, 116, 104, 101, 32, 108, 97, 122, 121, 32, 100, 111, 103]) = [102, 55, 98, 99, 56, 51, 102, 52, 51, 48, 53, 51, 56, 52, 50, 52, 98, 49, 51, 50, 57, 56, 101, 54, 97, 97, 54, 102, 98, 49, 52, 51, 101, 102, 52, 100, 53, 57, 97, 49, 52, 57, 52, 54, 49, 55, 53, 57, 57, 55, 52, 55, 57, 100, 98, 99, 50, 100, 49, 97, 51, 99, 100, 56] := by decide +kernel
theorem vSum1 : hexL (sumL [97, 98, 99]) = [98, 97, 55, 56, 49, 54, 98, 102, 56, 102, 48, 49, 99, 102, 101, 97, 52, 49, 52, 49, 52, 48, 100, 101, 53, 100, 97, 101, 50, 50, 50, 51, 98, 48, 48, 51, 54, 49, 97, 51, 57, 54, 49, 55, 55, 97, 57, 99, 98, 52, 49, 48, 102, 102, 54, 49, 102, 50, 48, 48, 49, 53, 97, 100] := by decide +kernel
theorem vSum2 : hexL (sumL []) = [101, 51, 98, 48, 99, 52, 52, 50, 57, 56, 102, 99, 49, 99, 49, 52, 57, 97, 102, 98, 102, 52, 99, 56, 57, 57, 54, 102, 98, 57, 50, 52, 50, 55, 97, 101, 52, 49, 101, 52, 54, 52, 57, 98, 57, 51, 52, 99, 97, 52, 57, 53, 57, 57, 49, 98, 55, 56, 53, 50, 98, 56, 53, 53] := by decide +kernel
theorem vCrc1 : crc [49, 50, 51, 52, 53, 54, 55, 56, 57] = 3421780262#32 := by decide +kernel
theorem vCrc2 : crc [] = 0#32 := by decide +kernel
theorem vUnhex1 : unhexL [48, 65] = none := by decide +kernel
theorem vUnhex2 : unhexL [48, 97] = some [10] := by decide +kernel
theorem vUnb : unb32L [109, 122] = none := by decide +kernel
theorem vBase : b32L [102, 111, 111, 98, 97, 114] = [109, 122, 120, 119, 54, 121, 116, 98, 111, 105] := by decide +kernel

theorem smUnhex1 (w : World) : Calls Tryd.prog 12 #[.string ⟨#[48, 65]⟩] w fun e w' => e = .returned (.tuple #[.string ⟨#[]⟩, .bool false]) ∧ Below w.heap.size w w' :=
  (unhex_any ⟨#[48, 65]⟩ w (by decide)).mono fun _ _ ⟨h1, h2⟩ => ⟨by rw [h1, show unhexL _ = none from vUnhex1]; rfl, h2⟩
theorem smUnhex2 (w : World) : Calls Tryd.prog 12 #[.string ⟨#[48, 97]⟩] w fun e w' => e = .returned (.tuple #[.string ⟨#[10]⟩, .bool true]) ∧ Below w.heap.size w w' :=
  (unhex_any ⟨#[48, 97]⟩ w (by decide)).mono fun _ _ ⟨h1, h2⟩ => ⟨by rw [h1, show unhexL _ = some [10] from vUnhex2]; rfl, h2⟩
theorem smUnb (w : World) : Calls Tryd.prog 14 #[.string ⟨#[109, 122]⟩] w fun e w' => e = .returned (.tuple #[.string ⟨#[]⟩, .bool false]) ∧ Below w.heap.size w w' :=
  (unb_any ⟨#[109, 122]⟩ w (by decide)).mono fun _ _ ⟨h1, h2⟩ => ⟨by rw [h1, show unb32L _ = none from vUnb]; rfl, h2⟩
theorem smSum1 (w : World) (hK : KT w) (hpos : 0 < w.heap.size) : Calls Tryd.prog 18 #[.string ⟨#[97, 98, 99]⟩] w fun e w' => e = .returned (.string ⟨(sumL [97, 98, 99]).toArray⟩) ∧ Below w.heap.size w w' :=
  sum_any ⟨#[97, 98, 99]⟩ w (by decide) hK hpos
theorem smSum2 (w : World) (hK : KT w) (hpos : 0 < w.heap.size) : Calls Tryd.prog 18 #[.string ⟨#[]⟩] w fun e w' => e = .returned (.string ⟨(sumL []).toArray⟩) ∧ Below w.heap.size w w' :=
  sum_any ⟨#[]⟩ w (by decide) hK hpos
theorem smMac (w : World) (hK : KT w) (hpos : 0 < w.heap.size) : Calls Tryd.prog 17 #[.string ⟨#[107, 101, 121]⟩, .string ⟨#[84, 104, 101, 32, 113, 117, 105, 99, 107, 32, 98, 114, 111, 119, 110, 32, 102, 111, 120, 32, 106, 117, 109, 112, 115, 32, 111, 118, 101, 114, 32, 116, 104, 101, 32, 108, 97, 122, 121, 32, 100, 111, 103]⟩] w fun e w' => e = .returned (.string ⟨(macL [107, 101, 121] [84, 104, 101, 32, 113, 117, 105, 99, 107, 32, 98, 114, 111, 119, 110, 32, 102, 111, 120, 32, 106, 117, 109, 112, 115, 32, 111, 118, 101, 114, 32, 116, 104, 101, 32, 108, 97, 122, 121, 32, 100, 111, 103]).toArray⟩) ∧ Below w.heap.size w w' :=
  mac_any ⟨#[107, 101, 121]⟩ ⟨#[84, 104, 101, 32, 113, 117, 105, 99, 107, 32, 98, 114, 111, 119, 110, 32, 102, 111, 120, 32, 106, 117, 109, 112, 115, 32, 111, 118, 101, 114, 32, 116, 104, 101, 32, 108, 97, 122, 121, 32, 100, 111, 103]⟩ w (by decide) (by decide) hK hpos
theorem smHex1 (w : World) : Calls Tryd.prog 11 #[.string ⟨(sumL [97, 98, 99]).toArray⟩] w fun e w' => e = .returned (.string ⟨#[98, 97, 55, 56, 49, 54, 98, 102, 56, 102, 48, 49, 99, 102, 101, 97, 52, 49, 52, 49, 52, 48, 100, 101, 53, 100, 97, 101, 50, 50, 50, 51, 98, 48, 48, 51, 54, 49, 97, 51, 57, 54, 49, 55, 55, 97, 57, 99, 98, 52, 49, 48, 102, 102, 54, 49, 102, 50, 48, 48, 49, 53, 97, 100]⟩) ∧ Below w.heap.size w w' :=
  (hex_any _ w (by rw [mk_size, sumL_length]; decide)).mono fun _ _ ⟨h1, h2⟩ => ⟨by rw [h1, vSum1], h2⟩
theorem smHex2 (w : World) : Calls Tryd.prog 11 #[.string ⟨(sumL []).toArray⟩] w fun e w' => e = .returned (.string ⟨#[101, 51, 98, 48, 99, 52, 52, 50, 57, 56, 102, 99, 49, 99, 49, 52, 57, 97, 102, 98, 102, 52, 99, 56, 57, 57, 54, 102, 98, 57, 50, 52, 50, 55, 97, 101, 52, 49, 101, 52, 54, 52, 57, 98, 57, 51, 52, 99, 97, 52, 57, 53, 57, 57, 49, 98, 55, 56, 53, 50, 98, 56, 53, 53]⟩) ∧ Below w.heap.size w w' :=
  (hex_any _ w (by rw [mk_size, sumL_length]; decide)).mono fun _ _ ⟨h1, h2⟩ => ⟨by rw [h1, vSum2], h2⟩
theorem smHex3 (w : World) : Calls Tryd.prog 11 #[.string ⟨(macL [107, 101, 121] [84, 104, 101, 32, 113, 117, 105, 99, 107, 32, 98, 114, 111, 119, 110, 32, 102, 111, 120, 32, 106, 117, 109, 112, 115, 32, 111, 118, 101, 114, 32, 116, 104, 101, 32, 108, 97, 122, 121, 32, 100, 111, 103]).toArray⟩] w fun e w' => e = .returned (.string ⟨#[102, 55, 98, 99, 56, 51, 102, 52, 51, 48, 53, 51, 56, 52, 50, 52, 98, 49, 51, 50, 57, 56, 101, 54, 97, 97, 54, 102, 98, 49, 52, 51, 101, 102, 52, 100, 53, 57, 97, 49, 52, 57, 52, 54, 49, 55, 53, 57, 57, 55, 52, 55, 57, 100, 98, 99, 50, 100, 49, 97, 51, 99, 100, 56]⟩) ∧ Below w.heap.size w w' :=
  (hex_any _ w (by rw [mk_size, macL, sumL_length]; decide)).mono fun _ _ ⟨h1, h2⟩ => ⟨by rw [h1, vMacHex], h2⟩
theorem smCrc1 (w : World) : Calls Tryd.prog 16 #[.string ⟨#[49, 50, 51, 52, 53, 54, 55, 56, 57]⟩] w fun e w' => e = .returned (.int .i64 3421780262) ∧ w' = w :=
  (crc_any ⟨#[49, 50, 51, 52, 53, 54, 55, 56, 57]⟩ w (by decide)).mono fun _ _ ⟨h1, h2⟩ => ⟨by rw [h1, show crc _ = 3421780262#32 from vCrc1]; rfl, h2⟩
theorem smCrc2 (w : World) : Calls Tryd.prog 16 #[.string ⟨#[]⟩] w fun e w' => e = .returned (.int .i64 0) ∧ w' = w :=
  (crc_any ⟨#[]⟩ w (by decide)).mono fun _ _ ⟨h1, h2⟩ => ⟨by rw [h1, show crc _ = 0#32 from vCrc2]; rfl, h2⟩
theorem smBase (w : World) : Calls Tryd.prog 13 #[.string ⟨#[102, 111, 111, 98, 97, 114]⟩] w fun e w' => e = .returned (.string ⟨#[109, 122, 120, 119, 54, 121, 116, 98, 111, 105]⟩) ∧ Below w.heap.size w w' :=
  (base_any ⟨#[102, 111, 111, 98, 97, 114]⟩ w (by decide)).mono fun _ _ ⟨h1, h2⟩ => ⟨by rw [h1, show b32L _ = _ from vBase], h2⟩
end Go.Proofs.YtejckicjfmhhoaaDoor

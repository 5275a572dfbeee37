/- What bits.RotateLeft32 returns at the ten distances that the digest uses (written by a small program). -/
import Derived.Test.YtejckicjfmhhoaaDoorBits
import Derived.Test.YtejckicjfmhhoaaDoorProg
import Derived.Outline
import Derived.Lib.Hide
import Derived.WalkLawsBesides
namespace Go.Proofs.YtejckicjfmhhoaaDoor
open Go.RowKit Dg

theorem rot7 (b : Word) (w : World) : Calls Tryd.prog 38 #[.int .u32 (wn b), .int .i64 (-7)] w fun e w' => e = .returned (.int .u32 (wn (ror b 7))) ∧ w = w' := by
  have h1 : bits BinOp.and IntKind.u64 (IntKind.u64.wrap (-7)) 31 = 25 := by decide
  have h2 := shl_w b 25 33554432 rfl
  have h3 := shr_w b 7 128 rfl
  have h4 := bits_o (wl b 25) (wr b 7)
  go_enter Tryd.func38, Tryd.ntmps38
  go_wp2
  go_ret
  exact ⟨rfl, rfl⟩

theorem rot18 (b : Word) (w : World) : Calls Tryd.prog 38 #[.int .u32 (wn b), .int .i64 (-18)] w fun e w' => e = .returned (.int .u32 (wn (ror b 18))) ∧ w = w' := by
  have h1 : bits BinOp.and IntKind.u64 (IntKind.u64.wrap (-18)) 31 = 14 := by decide
  have h2 := shl_w b 14 16384 rfl
  have h3 := shr_w b 18 262144 rfl
  have h4 := bits_o (wl b 14) (wr b 18)
  go_enter Tryd.func38, Tryd.ntmps38
  go_wp2
  go_ret
  exact ⟨rfl, rfl⟩

theorem rot17 (b : Word) (w : World) : Calls Tryd.prog 38 #[.int .u32 (wn b), .int .i64 (-17)] w fun e w' => e = .returned (.int .u32 (wn (ror b 17))) ∧ w = w' := by
  have h1 : bits BinOp.and IntKind.u64 (IntKind.u64.wrap (-17)) 31 = 15 := by decide
  have h2 := shl_w b 15 32768 rfl
  have h3 := shr_w b 17 131072 rfl
  have h4 := bits_o (wl b 15) (wr b 17)
  go_enter Tryd.func38, Tryd.ntmps38
  go_wp2
  go_ret
  exact ⟨rfl, rfl⟩

theorem rot19 (b : Word) (w : World) : Calls Tryd.prog 38 #[.int .u32 (wn b), .int .i64 (-19)] w fun e w' => e = .returned (.int .u32 (wn (ror b 19))) ∧ w = w' := by
  have h1 : bits BinOp.and IntKind.u64 (IntKind.u64.wrap (-19)) 31 = 13 := by decide
  have h2 := shl_w b 13 8192 rfl
  have h3 := shr_w b 19 524288 rfl
  have h4 := bits_o (wl b 13) (wr b 19)
  go_enter Tryd.func38, Tryd.ntmps38
  go_wp2
  go_ret
  exact ⟨rfl, rfl⟩

theorem rot6 (b : Word) (w : World) : Calls Tryd.prog 38 #[.int .u32 (wn b), .int .i64 (-6)] w fun e w' => e = .returned (.int .u32 (wn (ror b 6))) ∧ w = w' := by
  have h1 : bits BinOp.and IntKind.u64 (IntKind.u64.wrap (-6)) 31 = 26 := by decide
  have h2 := shl_w b 26 67108864 rfl
  have h3 := shr_w b 6 64 rfl
  have h4 := bits_o (wl b 26) (wr b 6)
  go_enter Tryd.func38, Tryd.ntmps38
  go_wp2
  go_ret
  exact ⟨rfl, rfl⟩

theorem rot11 (b : Word) (w : World) : Calls Tryd.prog 38 #[.int .u32 (wn b), .int .i64 (-11)] w fun e w' => e = .returned (.int .u32 (wn (ror b 11))) ∧ w = w' := by
  have h1 : bits BinOp.and IntKind.u64 (IntKind.u64.wrap (-11)) 31 = 21 := by decide
  have h2 := shl_w b 21 2097152 rfl
  have h3 := shr_w b 11 2048 rfl
  have h4 := bits_o (wl b 21) (wr b 11)
  go_enter Tryd.func38, Tryd.ntmps38
  go_wp2
  go_ret
  exact ⟨rfl, rfl⟩

theorem rot25 (b : Word) (w : World) : Calls Tryd.prog 38 #[.int .u32 (wn b), .int .i64 (-25)] w fun e w' => e = .returned (.int .u32 (wn (ror b 25))) ∧ w = w' := by
  have h1 : bits BinOp.and IntKind.u64 (IntKind.u64.wrap (-25)) 31 = 7 := by decide
  have h2 := shl_w b 7 128 rfl
  have h3 := shr_w b 25 33554432 rfl
  have h4 := bits_o (wl b 7) (wr b 25)
  go_enter Tryd.func38, Tryd.ntmps38
  go_wp2
  go_ret
  exact ⟨rfl, rfl⟩

theorem rot2 (b : Word) (w : World) : Calls Tryd.prog 38 #[.int .u32 (wn b), .int .i64 (-2)] w fun e w' => e = .returned (.int .u32 (wn (ror b 2))) ∧ w = w' := by
  have h1 : bits BinOp.and IntKind.u64 (IntKind.u64.wrap (-2)) 31 = 30 := by decide
  have h2 := shl_w b 30 1073741824 rfl
  have h3 := shr_w b 2 4 rfl
  have h4 := bits_o (wl b 30) (wr b 2)
  go_enter Tryd.func38, Tryd.ntmps38
  go_wp2
  go_ret
  exact ⟨rfl, rfl⟩

theorem rot13 (b : Word) (w : World) : Calls Tryd.prog 38 #[.int .u32 (wn b), .int .i64 (-13)] w fun e w' => e = .returned (.int .u32 (wn (ror b 13))) ∧ w = w' := by
  have h1 : bits BinOp.and IntKind.u64 (IntKind.u64.wrap (-13)) 31 = 19 := by decide
  have h2 := shl_w b 19 524288 rfl
  have h3 := shr_w b 13 8192 rfl
  have h4 := bits_o (wl b 19) (wr b 13)
  go_enter Tryd.func38, Tryd.ntmps38
  go_wp2
  go_ret
  exact ⟨rfl, rfl⟩

theorem rot22 (b : Word) (w : World) : Calls Tryd.prog 38 #[.int .u32 (wn b), .int .i64 (-22)] w fun e w' => e = .returned (.int .u32 (wn (ror b 22))) ∧ w = w' := by
  have h1 : bits BinOp.and IntKind.u64 (IntKind.u64.wrap (-22)) 31 = 10 := by decide
  have h2 := shl_w b 10 1024 rfl
  have h3 := shr_w b 22 4194304 rfl
  have h4 := bits_o (wl b 10) (wr b 22)
  go_enter Tryd.func38, Tryd.ntmps38
  go_wp2
  go_ret
  exact ⟨rfl, rfl⟩

end Go.Proofs.YtejckicjfmhhoaaDoor

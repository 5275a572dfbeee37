/- What padded returns. -/
import Derived.Test.YtejckicjfmhhoaaDoorHex
import Derived.Lib.BufferWrite
import Derived.Laws.CopyOwn
namespace Dg

/-- The first i bytes masked. -/
def mask (k : List UInt8) (x : UInt8) (i : Nat) : List UInt8 := (k.take i).map (· ^^^ x) ++ k.drop i
def full (key : List UInt8) : List UInt8 := key ++ List.replicate (64 - key.length) 0
def padL (key : List UInt8) (x : UInt8) : List UInt8 := (full key).map (· ^^^ x)

theorem mask_length (k : List UInt8) (x : UInt8) (i : Nat) : (mask k x i).length = k.length := by
  simp [mask]; omega
theorem full_length {key : List UInt8} (h : key.length ≤ 64) : (full key).length = 64 := by
  simp [full]; omega
theorem mask_next {k l : List UInt8} {x : UInt8} {i : Nat} (hl : l = mask k x i) (hi : i < k.length) : l.set i (l.getD i 0 ^^^ x) = mask k x (i + 1) := by
  subst hl
  unfold mask
  have h1 : ((k.take i).map (· ^^^ x)).length = i := by simp; omega
  rw [List.set_append_right _ _ (by omega), h1, Nat.sub_self, List.getD_eq_getElem?_getD, List.getElem?_append_right (by omega), h1, Nat.sub_self, List.take_add_one, List.getElem?_eq_getElem hi, List.drop_eq_getElem_cons hi,
    List.set_cons_zero, List.map_append, List.append_assoc]
  rfl

end Dg
namespace Go.Proofs.YtejckicjfmhhoaaDoor
open Go.RowKit Dg

theorem wpList_copy_str {P : Program} {w : World} {ops : Array Oper} {rest : List Oper} {o : Oper} {a : Act} {Q : Exit → Act → World → Prop} (hgd : o.guard = none) (d x : Operand) (dT sT : TypeId)
    (hop : o.op = .call { callee := .builtin .copy, args := #[d, x], argTypes := #[dT, sT] }) (elem : TypeId) (hu : P.underlying dT = some (.slice elem)) (hsz : (P.info? elem).map (·.size) = some 1)
    (g dLen dCap : Nat) (s : ByteArray) (hd : a.eval d = .slice (some ⟨g, 0, none⟩) dLen dCap) (hx : a.eval x = .string s) (cur : Array Value) (t : TypeId) (hg : w.heap[g]? = some (.cells cur t (0, 0))) (hle : s.size ≤ dLen) (hfit : s.size ≤ cur.size)
    (h : wpList P ops Q rest (a.put o.dst (goInt s.size)) (w.setRow g (Lib.byteCells s.data.toList ++ cur.toList.drop s.size).toArray)) : wpList P ops Q (o :: rest) a w := by
  refine wpList_plain hgd fun K hK => ?_
  have hrun := Lib.run_copy_row_string (P := P) w dT sT o.type elem g 0 dLen dCap s cur t hu hsz hg hle (by omega)
  simp only [List.take_zero, List.nil_append, Nat.zero_add] at hrun
  unfold Oper.wp
  simp [execOp, hop, resolve, invoke, builtin, hd, hx, hrun, Result.andThen]
  exact hK _ _ h

/-- Block g is an array of these bytes. -/
def BRow (w : World) (g : Nat) (t : TypeId) (l : List UInt8) : Prop := w.heap[g]? = some (.cells (bc l).toArray t (0, 0))
theorem BRow.lt {w : World} {g : Nat} {t : TypeId} {l : List UInt8} (h : BRow w g t l) : g < w.heap.size := (Array.getElem?_eq_some_iff.1 h).1
theorem BRow.cellD {w : World} {g : Nat} {t : TypeId} {l : List UInt8} (h : BRow w g t l) {i : Nat} (hi : i < l.length) : w.cell? ⟨g, i, none⟩ = some (.int .u8 ((l.getD i 0).toNat : Int)) := by
  unfold World.cell?
  rw [show w.heap[g]? = _ from h]
  simp [bc, hi]
theorem BRow.frozen {w : World} {g : Nat} {t : TypeId} {l : List UInt8} (h : BRow w g t l) (i : Nat) : w.frozen? ⟨g, i, none⟩ = false := by
  unfold World.frozen?
  rw [show w.heap[g]? = _ from h]
  simp
theorem BRow.set {w : World} {g : Nat} {t : TypeId} {l : List UInt8} (h : BRow w g t l) (i : Nat) (b : UInt8) : BRow (w.setCell ⟨g, i, none⟩ (.int .u8 (b.toNat : Int))) g t (l.set i b) := by
  obtain ⟨hlt, hk⟩ := Array.getElem?_eq_some_iff.1 h
  show (w.heap.modify g _)[g]? = _
  rw [Array.getElem?_eq_getElem (by rw [Array.size_modify]; exact hlt), Array.getElem_modify_self, hk]
  simp [bc, List.map_set]

theorem ofInt_u8 (a : UInt8) : BitVec.ofInt 8 (a.toNat : Int) = a.toBitVec := by
  rw [BitVec.ofInt_natCast]
  exact BitVec.eq_of_toNat_eq (by rw [BitVec.toNat_ofNat]; exact Nat.mod_eq_of_lt a.toNat_lt)
theorem xor_u8 (a b : UInt8) : bits .xor .u8 (a.toNat : Int) (b.toNat : Int) = ((a ^^^ b).toNat : Int) := by
  show IntKind.u8.wrap ((BitVec.ofInt 8 (a.toNat : Int) ^^^ BitVec.ofInt 8 (b.toNat : Int)).toNat : Int) = _
  rw [ofInt_u8, ofInt_u8]
  show IntKind.u8.wrap (((a ^^^ b).toNat : Nat) : Int) = _
  have := (a ^^^ b).toNat_lt
  unfold IntKind.wrap
  simp only [IntKind.bits, IntKind.signed, Bool.false_and, Bool.false_eq_true, if_false]
  omega

attribute [local go_sem] xor_u8

theorem brow_str {w : World} {g : Nat} {l : List UInt8} (h : BRow w g 49 l) (hl : l.length = 64) : (convert 30 9 (.slice (some ⟨g, 0, none⟩) 64 64)).run Tryd.prog w = .ok (.string ⟨l.toArray⟩) w := by
  have hrun := run_convert_bytes_back w 30 9 5 ⟨g, 0, none⟩ 64 l Tryd.underlying30 Tryd.underlying5 Tryd.underlying9 fun j hj => ?_
  · rw [hl] at hrun; exact hrun
  have ea : (⟨g, 0, none⟩ : Addr).add j = ⟨g, j, none⟩ := by
    unfold Addr.add
    split
    · rename_i e; subst e; rfl
    · simp
  rw [ea, h.cellD hj, List.getD_eq_getElem?_getD, List.getElem?_eq_getElem hj]
  rfl

theorem start_row {W : World} {g : Nat} {key : ByteArray} {cur : Array Value} (hg : W.heap[g]? = some (.cells cur 49 (0, 0))) (hc : cur.toList = List.replicate 64 (.int .u8 0)) :
    BRow (W.setRow g (Lib.byteCells key.data.toList ++ cur.toList.drop key.size).toArray) g 49 (full key.data.toList) := by
  show _ = _
  rw [setRow_heap W g _ _ 49 _ hg, hc, List.drop_replicate]
  have : key.data.toList.length = key.size := rfl
  simp [full, bc, Lib.byteCells, this]

theorem copy_key (key : ByteArray) (w : World) (hk : key.size ≤ 64) : ∃ W, BRow W w.heap.size 49 (full key.data.toList) ∧ Below w.heap.size w W ∧
    (Builtin.copy_ #[30, 9] 3 #[.slice (some ⟨w.heap.size, 0, none⟩) 64 64, .string key]).run Tryd.prog (w.alloc (.cells #[.int .u8 0, .int .u8 0, .int .u8 0, .int .u8 0, .int .u8 0, .int .u8 0, .int .u8 0, .int .u8 0, .int .u8 0, .int .u8 0, .int .u8 0, .int .u8 0, .int .u8 0, .int .u8 0, .int .u8 0, .int .u8 0, .int .u8 0, .int .u8 0, .int .u8 0, .int .u8 0, .int .u8 0, .int .u8 0, .int .u8 0, .int .u8 0, .int .u8 0, .int .u8 0, .int .u8 0, .int .u8 0, .int .u8 0, .int .u8 0, .int .u8 0, .int .u8 0, .int .u8 0, .int .u8 0, .int .u8 0, .int .u8 0, .int .u8 0, .int .u8 0, .int .u8 0, .int .u8 0, .int .u8 0, .int .u8 0, .int .u8 0, .int .u8 0, .int .u8 0, .int .u8 0, .int .u8 0, .int .u8 0, .int .u8 0, .int .u8 0, .int .u8 0, .int .u8 0, .int .u8 0, .int .u8 0, .int .u8 0, .int .u8 0, .int .u8 0, .int .u8 0, .int .u8 0, .int .u8 0, .int .u8 0, .int .u8 0, .int .u8 0, .int .u8 0] 49)) = .ok (.int .i64 (key.size : Int)) W := by
  have hg := heap_alloc_new w (.cells #[.int .u8 0, .int .u8 0, .int .u8 0, .int .u8 0, .int .u8 0, .int .u8 0, .int .u8 0, .int .u8 0, .int .u8 0, .int .u8 0, .int .u8 0, .int .u8 0, .int .u8 0, .int .u8 0, .int .u8 0, .int .u8 0, .int .u8 0, .int .u8 0, .int .u8 0, .int .u8 0, .int .u8 0, .int .u8 0, .int .u8 0, .int .u8 0, .int .u8 0, .int .u8 0, .int .u8 0, .int .u8 0, .int .u8 0, .int .u8 0, .int .u8 0, .int .u8 0, .int .u8 0, .int .u8 0, .int .u8 0, .int .u8 0, .int .u8 0, .int .u8 0, .int .u8 0, .int .u8 0, .int .u8 0, .int .u8 0, .int .u8 0, .int .u8 0, .int .u8 0, .int .u8 0, .int .u8 0, .int .u8 0, .int .u8 0, .int .u8 0, .int .u8 0, .int .u8 0, .int .u8 0, .int .u8 0, .int .u8 0, .int .u8 0, .int .u8 0, .int .u8 0, .int .u8 0, .int .u8 0, .int .u8 0, .int .u8 0, .int .u8 0, .int .u8 0] 49)
  have hrun := Lib.run_copy_row_string (P := Tryd.prog) (w.alloc (.cells #[.int .u8 0, .int .u8 0, .int .u8 0, .int .u8 0, .int .u8 0, .int .u8 0, .int .u8 0, .int .u8 0, .int .u8 0, .int .u8 0, .int .u8 0, .int .u8 0, .int .u8 0, .int .u8 0, .int .u8 0, .int .u8 0, .int .u8 0, .int .u8 0, .int .u8 0, .int .u8 0, .int .u8 0, .int .u8 0, .int .u8 0, .int .u8 0, .int .u8 0, .int .u8 0, .int .u8 0, .int .u8 0, .int .u8 0, .int .u8 0, .int .u8 0, .int .u8 0, .int .u8 0, .int .u8 0, .int .u8 0, .int .u8 0, .int .u8 0, .int .u8 0, .int .u8 0, .int .u8 0, .int .u8 0, .int .u8 0, .int .u8 0, .int .u8 0, .int .u8 0, .int .u8 0, .int .u8 0, .int .u8 0, .int .u8 0, .int .u8 0, .int .u8 0, .int .u8 0, .int .u8 0, .int .u8 0, .int .u8 0, .int .u8 0, .int .u8 0, .int .u8 0, .int .u8 0, .int .u8 0, .int .u8 0, .int .u8 0, .int .u8 0, .int .u8 0] 49)) 30 9 3 5 w.heap.size 0 64 64 key _ 49 Tryd.underlying30 (by kernel_rfl) hg hk (by simpa using hk)
  simp only [List.take_zero, List.nil_append, Nat.zero_add] at hrun
  exact ⟨_, start_row (key := key) hg rfl, below_setRow ((Below.refl w.heap.size w).alloc (Nat.le_refl _) _) (Nat.le_refl _) _, hrun⟩

set_option maxRecDepth 100000 in
theorem padded_any (key : ByteArray) (x : UInt8) (w : World) (hk : key.size ≤ 64) :
    Calls Tryd.prog 29 #[.string key, .int .u8 (x.toNat : Int)] w fun e w' => e = .returned (.string ⟨(padL key.data.toList x).toArray⟩) ∧ Below w.heap.size w w' := by
  obtain ⟨W, hrow0, hb0, hcp⟩ := copy_key key w hk
  have hf : (full key.data.toList).length = 64 := full_length hk
  go_enter Tryd.func29, Tryd.ntmps29
  go_wp2_with fail
  go_loopw [10] (fun sh wr => ∃ (i : Nat) (l : List UInt8), i ≤ 64 ∧ sh = .int .i64 (i : Int) ∧ Hid (l = mask (full key.data.toList) x i) ∧ BRow wr w.heap.size 49 l ∧ Below w.heap.size w wr)
    (fun sh _ => (64 - intOf sh).toNat)
  case atStart => exact ⟨0, _, by omega, rfl, by rfl, hrow0, hb0⟩
  case round =>
    clear hrow0 hb0 hcp
    obtain ⟨i, l, hi, rfl, HL, hrow, hb⟩ := hrel
    obtain ⟨w1, rfl⟩ : ∃ w1 : World, w1 = wr := ⟨_, rfl⟩
    have hll : l.length = 64 := by rw [HL.out, mask_length, hf]
    by_cases hlt : i < 64
    · have hc := hrow.cellD (show i < l.length by omega)
      have hz := hrow.frozen i
      have hset := hrow.set i (l.getD i 0 ^^^ x)
      have HN : Hid (l.set i (l.getD i 0 ^^^ x) = mask (full key.data.toList) x (i + 1)) := mask_next HL.out (by omega)
      generalize l.getD i 0 = c at *
      go_wp2_with fail
      rw [← UInt8.toNat_xor]
      refine ⟨⟨i + 1, _, by omega, by go_num, HN, hset, hb.setCell (Nat.le_refl _) _⟩, by simp [intOf]; omega⟩
    · have hcv := brow_str hrow hll
      go_wp2_with fail
      refine bodyPost_ret (v := .string ⟨l.toArray⟩) (by simp [results, Tryd.f29, go_sem]) rfl ⟨?_, hb⟩
      have : i = 64 := by omega
      rw [HL.out, mask, List.take_of_length_le (by omega), List.drop_of_length_le (by omega), List.append_nil]
      rfl
end Go.Proofs.YtejckicjfmhhoaaDoor

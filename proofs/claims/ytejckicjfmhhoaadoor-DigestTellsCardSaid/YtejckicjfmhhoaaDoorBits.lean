/- The walk's own words for operations on uint32 and bytes, as operations on words. -/
import Derived.Test.YtejckicjfmhhoaaDoorPlain
import Derived.WalkKit
import Derived.ProofKit
import Derived.Below
namespace Go.Proofs.YtejckicjfmhhoaaDoor
open Go.RowKit Dg

theorem wn_def (b : Word) : wn b = (b.toNat : Int) := rfl
theorem wn_nonneg (b : Word) : 0 ≤ wn b := by unfold wn; omega
theorem wn_lt (b : Word) : wn b < 4294967296 := by unfold wn; have := b.isLt; omega
theorem wn_inj {a b : Word} (h : wn a = wn b) : a = b := by
  unfold wn at h
  exact BitVec.eq_of_toNat_eq (by omega)
theorem ofInt_wn (b : Word) : BitVec.ofInt 32 (wn b) = b := by
  unfold wn
  rw [BitVec.ofInt_natCast, BitVec.ofNat_toNat, BitVec.setWidth_eq]
theorem wrap_wn (b : Word) : IntKind.u32.wrap (wn b) = wn b := by
  have h1 := wn_nonneg b
  have h2 := wn_lt b
  unfold IntKind.wrap
  simp only [IntKind.bits, IntKind.signed, Bool.false_and, Bool.false_eq_true, if_false]
  omega

theorem bits_x (a b : Word) : bits .xor .u32 (wn a) (wn b) = wn (wx a b) := by
  show IntKind.u32.wrap ((BitVec.ofInt 32 (wn a) ^^^ BitVec.ofInt 32 (wn b)).toNat : Int) = _
  rw [ofInt_wn, ofInt_wn]; exact wrap_wn _
theorem bits_a (a b : Word) : bits .and .u32 (wn a) (wn b) = wn (wa a b) := by
  show IntKind.u32.wrap ((BitVec.ofInt 32 (wn a) &&& BitVec.ofInt 32 (wn b)).toNat : Int) = _
  rw [ofInt_wn, ofInt_wn]; exact wrap_wn _
theorem bits_o (a b : Word) : bits .or .u32 (wn a) (wn b) = wn (wo a b) := by
  show IntKind.u32.wrap ((BitVec.ofInt 32 (wn a) ||| BitVec.ofInt 32 (wn b)).toNat : Int) = _
  rw [ofInt_wn, ofInt_wn]; exact wrap_wn _
theorem bits_not (a : Word) : bits .xor .u32 4294967295 (wn a) = wn (wc a) := by
  rw [show (4294967295 : Int) = wn 0xffffffff from rfl, bits_x]
  congr 1
theorem add_w (a b : Word) : (wn a + wn b) % 4294967296 = wn (wp a b) := by
  unfold wn wp
  rw [BitVec.toNat_add]
  omega
theorem shl_w (a : Word) (k : Nat) (m : Int) (h : m = 2 ^ k) : wn a * m % 4294967296 = wn (wl a k) := by
  subst h
  unfold wn wl
  rw [BitVec.toNat_shiftLeft, Nat.shiftLeft_eq]
  simp
theorem shr_w (a : Word) (k : Nat) (m : Int) (h : m = 2 ^ k) : wn a / m = wn (wr a k) := by
  subst h
  unfold wn wr
  rw [BitVec.toNat_ushiftRight, Nat.shiftRight_eq_div_pow]
  simp
theorem w8_w (c : UInt8) : (c.toNat : Int) % 4294967296 = wn (w8 c) := by
  unfold wn w8
  rw [BitVec.toNat_setWidth]
  have := c.toNat_lt
  show _ = ((c.toNat % 2 ^ 32 : Nat) : Int)
  omega
theorem lo_w (b : Word) : wn b % 256 = ((lo b).toNat : Int) := by
  unfold wn lo
  show _ = (((b.setWidth 8).toNat : Nat) : Int)
  rw [BitVec.toNat_setWidth]
  omega
theorem wn_lit (n : Nat) (h : n < 4294967296) : ((n : Nat) : Int) = wn (BitVec.ofNat 32 n) := by
  unfold wn
  rw [BitVec.toNat_ofNat, Nat.mod_eq_of_lt h]

/-- Words as the cells of an array. -/
def wv (ws : List Word) : List Value := ws.map fun b => .int .u32 (wn b)

/-- Block g is an array of these words. -/
def Row (w : World) (g : Nat) (t : TypeId) (ws : List Word) : Prop := w.heap[g]? = some (.cells (wv ws).toArray t (0, 0))

theorem Row.lt {w : World} {g : Nat} {t : TypeId} {ws : List Word} (h : Row w g t ws) : g < w.heap.size := (Array.getElem?_eq_some_iff.1 h).1
theorem Row.cell {w : World} {g : Nat} {t : TypeId} {ws : List Word} (h : Row w g t ws) {i : Nat} (hi : i < ws.length) : w.cell? ⟨g, i, none⟩ = some (.int .u32 (wn ws[i])) := by
  unfold World.cell?
  rw [show w.heap[g]? = _ from h]
  simp [wv, hi]
theorem Row.cellD {w : World} {g : Nat} {t : TypeId} {ws : List Word} (h : Row w g t ws) {i : Nat} (hi : i < ws.length) : w.cell? ⟨g, i, none⟩ = some (.int .u32 (wn (ws.getD i 0))) := by
  rw [h.cell hi, List.getD_eq_getElem?_getD, List.getElem?_eq_getElem hi]; rfl
theorem Row.frozen {w : World} {g : Nat} {t : TypeId} {ws : List Word} (h : Row w g t ws) (i : Nat) : w.frozen? ⟨g, i, none⟩ = false := by
  unfold World.frozen?
  rw [show w.heap[g]? = _ from h]
  simp
theorem Row.set {w : World} {g : Nat} {t : TypeId} {ws : List Word} (h : Row w g t ws) (i : Nat) (b : Word) : Row (w.setCell ⟨g, i, none⟩ (.int .u32 (wn b))) g t (ws.set i b) := by
  obtain ⟨hlt, hk⟩ := Array.getElem?_eq_some_iff.1 h
  show (w.heap.modify g _)[g]? = _
  rw [Array.getElem?_eq_getElem (by rw [Array.size_modify]; exact hlt), Array.getElem_modify_self, hk]
  simp [wv, List.map_set]
theorem Row.other {w : World} {g g' : Nat} {t : TypeId} {ws : List Word} (h : Row w g t ws) (hne : g ≠ g') (i : Nat) (v : Value) : Row (w.setCell ⟨g', i, none⟩ v) g t ws := by
  show (w.setCell _ v).heap[g]? = _
  rw [Below.heap_setCell _ _ _ _ hne]; exact h
theorem Row.below {w w' : World} {g B : Nat} {t : TypeId} {ws : List Word} (h : Row w g t ws) (hb : Below B w w') (hB : g < B) : Row w' g t ws := (hb.block g hB).trans h
theorem Row.drew {w : World} {g : Nat} {t : TypeId} {ws : List Word} (h : Row w g t ws) : Row w.drew g t ws := h

/-- The table of constants lies in block 0. -/
def KT (w : World) : Prop := ∀ i, i < 64 → w.cell? ⟨0, i, none⟩ = some (.int .u32 (wn (K.getD i 0)))

theorem KT.below {w w' : World} {B : Nat} (h : KT w) (hb : Below B w w') (hB : 0 < B) : KT w' := fun i hi => (hb.cell (p := ⟨0, i, none⟩) hB).trans (h i hi)

end Go.Proofs.YtejckicjfmhhoaaDoor

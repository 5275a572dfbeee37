/- A row of bytes that was made out of a string, and what is appended to it. -/
import Derived.Test.YtejckicjfmhhoaaDoorFlip
import Derived.ArgAppend
import Derived.Deep.MidRow
namespace Go.Proofs.YtejckicjfmhhoaaDoor
open Go.RowKit Dg

/-- The slice v holds these bytes, in a block from base on, and its spare cells may be written. -/
def Brow (w : World) (base : Nat) (v : Value) (n : Nat) (l : List UInt8) : Prop :=
  ∃ g cap, v = .slice (some ⟨g, 0, none⟩) n cap ∧ base ≤ g ∧ g < w.heap.size ∧ n = l.length ∧ n ≤ cap ∧ cap ≤ maxLen ∧
    (∀ j, j < n → w.cell? ⟨g, j, none⟩ = some (.int .u8 ((l.getD j 0).toNat : Int))) ∧ (∀ j, n ≤ j → j < cap → (w.cell? ⟨g, j, none⟩).isSome = true ∧ w.frozen? ⟨g, j, none⟩ = false)

theorem Brow.kept {w w' : World} {base : Nat} {v : Value} {n : Nat} {l : List UInt8} (h : Brow w base v n l) (hs : w.heap.size ≤ w'.heap.size) (hb : ∀ k, v.ownBlock = some k → w'.heap[k]? = w.heap[k]?) : Brow w' base v n l := by
  obtain ⟨g, cap, rfl, h1, h2, h3, h4, h5, h6, h7⟩ := h
  have hg := hb g rfl
  refine ⟨g, cap, rfl, h1, by omega, h3, h4, h5, fun j hj => ?_, fun j hj hc => ?_⟩
  · rw [World.cell?_of_block (a := ⟨g, j, none⟩) hg]; exact h6 j hj
  · rw [World.cell?_of_block (a := ⟨g, j, none⟩) hg, World.frozen?_of_block (a := ⟨g, j, none⟩) hg]; exact h7 j hj hc
theorem Brow.lt {w : World} {base : Nat} {v : Value} {n : Nat} {l : List UInt8} (h : Brow w base v n l) : ∀ k, v.ownBlock = some k → base ≤ k ∧ k < w.heap.size := by
  obtain ⟨g, cap, rfl, h1, h2, _⟩ := h
  intro k hk
  obtain rfl : g = k := by simpa [Value.ownBlock] using hk
  exact ⟨h1, h2⟩
theorem Brow.alloc {w : World} {base : Nat} {v : Value} {n : Nat} {l : List UInt8} (h : Brow w base v n l) (o : Obj) : Brow (w.alloc o) base v n l :=
  h.kept (by simp) fun k hk => Below.heap_alloc _ _ _ (h.lt k hk).2
theorem Brow.of_own {w : World} {base : Nat} {v : Value} {n : Nat} {l : List UInt8} (h : w.ownsRow base 5 1 v n (bc l)) (hn : 0 < n) : Brow w base v n l := by
  have hl : l.length = n := by have := h.1; simpa [bc] using this
  have hc := fun g c (e : v = .slice (some ⟨g, 0, none⟩) n c) => e
  rcases h.2 with ⟨_, h0⟩ | ⟨g, cap, cur, rfl, h1, hg, h3, h4, h5, h6⟩
  · omega
  · have hgl := (Array.getElem?_eq_some_iff.1 hg).1
    refine ⟨g, cap, rfl, h1, hgl, hl.symm, h3, h4, fun j hj => ?_, fun j hj hc => ?_⟩
    · rw [h.cellAt j (by omega)]
      simp [bc, show j < l.length by omega]
    · unfold World.cell? World.frozen?
      rw [hg]
      simp; omega
theorem Brow.of_string (s : ByteArray) (w : World) (hs : s.size ≤ maxLen) : ∃ W v, Brow W w.heap.size v s.size s.data.toList ∧ Below w.heap.size w W ∧ (convert 9 30 (.string s)).run Tryd.prog w = .ok v W := by
  refine ⟨Lib.bytesWorld w 5 s, _, ?_, ?_, Lib.run_convert_string_bytes w 9 30 5 s Tryd.underlying9 Tryd.underlying30 Tryd.underlying5⟩
  · have hge := grownCap_ge w s.size 0 5
    have hsz : (Lib.bytesCells w 5 s).size = grownCap w s.size 0 5 := by
      simp [Lib.bytesCells]
      have : s.data.size = s.size := rfl
      omega
    refine ⟨w.heap.size, _, rfl, Nat.le_refl _, by rw [Lib.bytesWorld_size]; omega, rfl, hge, grownCap_le_maxLen _ _ _ _ hs, fun j hj => Lib.bytesWorld_cell w 5 s j hj, fun j hj hc => ?_⟩
    unfold World.cell? World.frozen?
    rw [Lib.bytesWorld_at_new, hsz]
    simp
    omega
  · exact ⟨rfl, rfl, rfl, by rw [Lib.bytesWorld_size]; omega, fun k hk => Lib.bytesWorld_at_old w 5 s k hk⟩

theorem run_append_brow {w : World} {base : Nat} {v : Value} {n : Nat} {l : List UInt8} (t ty : TypeId) (i : TypeInfo) (ht : Tryd.prog.underlying t = some (.slice 5)) (hi : Tryd.prog.info? 5 = some i) (hz : i.zero = some (.int .u8 0))
    (hs : i.size = 1) (hby : i.bytes = 1) (h : Brow w base v n l) (a : Addr) (c : Nat) (x : UInt8) (hx : w.cell? a = some (.int .u8 (x.toNat : Int))) (hn : n ≤ 10000000) (hbase : base ≤ w.heap.size) :
    ∃ v' w', (Builtin.append_ #[t, t] ty #[v, .slice (some a) 1 c]).run Tryd.prog w = .ok v' w' ∧ Brow w' base v' (n + 1) (l ++ [x]) ∧ w.grownBy w' v.ownBlock := by
  obtain ⟨g, cap, rfl, h1, h2, h3, h4, h5, h6, h7⟩ := h
  have hnews : ∀ j u, [Value.int .u8 (x.toNat : Int)][j]? = some u → w.cell? (a.add j) = some u := by
    intro j u hj
    rcases j with _ | j
    · simp at hj
      subst hj
      rw [show a.add 0 = a by unfold Addr.add; simp]
      exact hx
    · simp at hj
  by_cases hr : n + 1 ≤ cap
  · have e0 : (0 + n * i.size) = n := by rw [hs]; omega
    have hc0 : ∀ j, j < [Value.int .u8 (x.toNat : Int)].length → (w.cell? ⟨g, 0 + n * i.size + j, none⟩).isSome = true ∧ w.frozen? ⟨g, 0 + n * i.size + j, none⟩ = false := by
      intro j hj
      simp at hj
      subst hj
      rw [e0]
      exact h7 n (Nat.le_refl _) (by omega)
    have hrun := run_append_room_cells (P := Tryd.prog) w t ty 5 i ht hi g 0 n cap a 1 c [.int .u8 (x.toNat : Int)] (by simp [hs]) hnews (by simp [Value.oneCell']) hr (fun j hj => (hc0 j hj).1) (fun j hj => (hc0 j hj).2)
    rw [e0] at hrun
    refine ⟨_, _, hrun, ⟨g, cap, rfl, h1, ?_, by simp; omega, hr, h5, ?_, ?_⟩, ?_⟩
    · show g < (w.setCell ⟨g, n, none⟩ _).heap.size
      simpa [World.setCell] using h2
    · intro j hj
      by_cases hjn : j = n
      · subst hjn
        have := World.cell?_setCells_in g [.int .u8 (x.toNat : Int)] j w (by intro k hk; simp at hk; subst hk; exact (h7 j (Nat.le_refl _) (by omega)).1) 0 (by simp)
        rw [Nat.add_zero] at this
        rw [this]
        simp [List.getD_eq_getElem?_getD, ← h3]
      · rw [World.cell?_setCells_out _ _ _ _ _ (by intro _ _; simp; omega), h6 j (by omega)]
        simp [List.getD_eq_getElem?_getD, List.getElem?_append_left (show j < l.length by omega)]
    · intro j hj hc
      rw [World.frozen?_setCells]
      exact ⟨World.isSome_setCells _ _ _ _ _ (h7 j (by omega) hc).1, (h7 j (by omega) hc).2⟩
    · refine ⟨rfl, rfl, rfl, by show _ ≤ (w.setCell ⟨g, n, none⟩ _).heap.size; simp [World.setCell], fun k hk hne => ?_⟩
      show (w.setCell ⟨g, n, none⟩ _).heap[k]? = _
      exact Below.heap_setCell _ _ _ _ (by intro e; exact hne (by simp [Value.ownBlock, e]))
  · have hcells : ∀ j u, (bc l)[j]? = some u → w.cell? ((⟨g, 0, none⟩ : Addr).add j) = some u := by
      intro j u hj
      have hjl : j < l.length := by
        have := (List.getElem?_eq_some_iff.1 hj).1
        simpa [bc] using this
      have ea : (⟨g, 0, none⟩ : Addr).add j = ⟨g, j, none⟩ := by
        unfold Addr.add
        split
        · rename_i e; subst e; rfl
        · simp
      rw [ea, h6 j (by omega), ← hj]
      simp [bc, hjl]
    obtain ⟨v', w', hrun, hown, hg⟩ := run_append_arg_grows (P := Tryd.prog) w t ty 5 i (.int .u8 0) 1 1 ht hi hz hs hby rfl (by decide) ⟨g, 0, none⟩ n cap (bc l) (by simp [bc, h3]) hcells a 1 c [.int .u8 (x.toNat : Int)] rfl hnews (by omega) (by unfold maxLen; omega) (by omega)
    have hown2 : w'.ownsRow w.heap.size 5 1 v' (n + 1) (bc (l ++ [x])) := by simpa [bc] using hown
    obtain ⟨g', cap', e', k1, k2⟩ := Brow.of_own hown2 (by omega)
    exact ⟨v', w', hrun, ⟨g', cap', e', by omega, k2⟩, ⟨hg.os, hg.tape, hg.output, hg.size, fun k hk _ => hg.block k hk (by simp)⟩⟩

theorem wpList_append_brow {w : World} {ops : Array Oper} {rest : List Oper} {o : Oper} {a : Act} {Q : Exit → Act → World → Prop} (hgd : o.guard = none) (s x : Operand) (t : TypeId)
    (ho : o.op = .call { callee := .builtin .append, args := #[s, x], argTypes := #[t, t] }) (base : Nat) (i : TypeInfo) (ht : Tryd.prog.underlying t = some (.slice 5)) (hi : Tryd.prog.info? 5 = some i) (hz : i.zero = some (.int .u8 0))
    (hs : i.size = 1) (hby : i.bytes = 1) (v : Value) (n : Nat) (l : List UInt8) (hv : a.eval s = v) (h : Brow w base v n l) (ad : Addr) (c : Nat) (b : UInt8) (hx : a.eval x = .slice (some ad) 1 c) (hc : w.cell? ad = some (.int .u8 (b.toNat : Int)))
    (hn : n ≤ 10000000) (hbase : base ≤ w.heap.size) (hK : ∀ v' w', Brow w' base v' (n + 1) (l ++ [b]) → w.grownBy w' v.ownBlock → wpList Tryd.prog ops Q rest (a.put o.dst v') w') : wpList Tryd.prog ops Q (o :: rest) a w := by
  refine wpList_plain hgd fun K hK' => ?_
  obtain ⟨v', w', hrun, r, hg⟩ := run_append_brow t o.type i ht hi hz hs hby h ad c b hc hn hbase
  unfold Oper.wp
  simp [execOp, ho, resolve, invoke, builtin, hv, hx, hrun, Result.andThen]
  exact hK' _ _ (hK v' w' r hg)
end Go.Proofs.YtejckicjfmhhoaaDoor

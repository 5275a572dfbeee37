import Derived.Test.YteoimmpbhkaacaaA4
import Derived.RangeFuncNested
import Derived.RangeFuncBound
import Derived.RangeFuncCalls
import Derived.RangeFuncLeaves
import Derived.Shelf.Abstract
import Derived.Shelf.RegionOpen
import Derived.OwnWalkIn
import Derived.TacticsInMore
import Derived.LoopNIn
import Derived.LoopIn
namespace Go.Proofs.Yteoimmpbhkaacaa
open Go.RowKit Go.Shelf PackL
attribute [local go_sem] Oper.semAt_some

/-- A group's ends, as the iterator hands them over. -/
abbrev Ends := { p : Nat × Nat // p.1 < p.2 ∧ p.2 ≤ 300 }
abbrev encE (p : Ends) : Array Value := #[.int .i64 p.1.1, .int .i64 p.1.2]

/-- The three captured variables lie behind block s. -/
structure Caps (s : Nat) (W : World) (v : Value) (b h : Int) : Prop where
  a : Boxed W (s + 1) 22 v
  b : Boxed W (s + 1 + 1) 3 (.int .i64 b)
  c : Boxed W (s + 1 + 1 + 1) 3 (.int .i64 h)

/-- What a round of Pack's keeps: all below block s, and the three captured variables. -/
structure KpP (s : Nat) (A B : World) : Prop where
  below : Below s A B
  caps : ∀ k, s < k → k < s + 4 → B.heap[k]? = A.heap[k]?

theorem KpP.trans {s : Nat} {A B C : World} (h : KpP s A B) (k : KpP s B C) : KpP s A C :=
  ⟨h.below.trans k.below, fun i h1 h2 => (k.caps i h1 h2).trans (h.caps i h1 h2)⟩
theorem KpP.of_caps {s : Nat} {A B : World} {v : Value} {b h : Int} (hk : KpP s A B) (hc : Caps s A v b h) : Caps s B v b h :=
  ⟨(hk.caps _ (by omega) (by omega)).trans hc.a, (hk.caps _ (by omega) (by omega)).trans hc.b, (hk.caps _ (by omega) (by omega)).trans hc.c⟩

set_option maxHeartbeats 1000000 in
theorem groups_in (a : Option Addr) (n cap : Nat) (b h : Int) (w : World) :
    CallsIn Fence.wide 3 Try.prog 15 #[.slice a n cap, .int .i64 b, .int .i64 h] w fun e w' =>
      e = .returned (.func (.func 18) #[] #[.pointer (some ⟨w.heap.size, 0, none⟩), .pointer (some ⟨w.heap.size + 1, 0, none⟩), .pointer (some ⟨w.heap.size + 1 + 1, 0, none⟩)]) ∧
      w' = ((w.alloc (.cells #[.slice a n cap] 22)).alloc (.cells #[.int .i64 b] 3)).alloc (.cells #[.int .i64 h] 3) := by
  refine callsIn_of_wp Try.func15 rfl trivial ?_ rfl
  simp only [Try.ntmps15, List.size_toArray, List.length_cons, List.length_nil, Nat.reduceAdd, Nat.reduceSub, Array.replicate_succ, Array.replicate_zero, List.push_toArray, List.append_toArray, List.nil_append, List.cons_append]
  gi_wp2
  go_ret
  exact ⟨rfl, rfl⟩

set_option maxRecDepth 100000 in
set_option maxHeartbeats 1000000 in
/-- THE ITERATOR: it hands over the ends of the groups, one after the other. -/
theorem groups1_in (l s : Nat) (v : Value) (xs : List Int) (b h : Int) (w W : World) (hs : w.heap.size = s) (hv : Ints w v xs) (hl : xs.length ≤ 300)
    (hb1 : -9223372036854775808 ≤ b) (hb2 : b ≤ 9223372036854775807) (hh2 : h ≤ 9223372036854775807) (J Jx : List Ends → World → Prop)
    (hY : ∀ pre x W1, J pre W1 → pre.length < 300 → YieldAt Fence.wide 2 Try.prog l (encE x) W1 fun e W' =>
      (e = .returned (.bool true) ∧ J (pre ++ [x]) W' ∧ KpP s W1 W') ∨ (e = .returned (.bool false) ∧ Jx (pre ++ [x]) W'))
    (hW : Below s w W) (hc : Caps s W v b h) (h0 : J [] W) :
    CallsIn Fence.wide 3 Try.prog 18 #[.func (.yield l) #[] #[], .pointer (some ⟨s + 1, 0, none⟩), .pointer (some ⟨s + 1 + 1, 0, none⟩), .pointer (some ⟨s + 1 + 1 + 1, 0, none⟩)] W fun e W' => (∃ u, e = .returned u) ∧
      ((∃ ys : List Ends, ys.map (·.1) = cuts xs b h 0 ∧ J ys W') ∨ (∃ pre : List Ends, True ∧ Jx pre W')) := by
  subst hs
  obtain ⟨av, cv, rfl, _⟩ := id hv
  have HV := Lib.hid hv; clear hv
  refine callsIn_of_wp Try.func18 rfl trivial ?_ rfl
  simp only [Try.ntmps18, List.size_toArray, List.length_cons, List.length_nil, Nat.reduceAdd, Nat.reduceSub, Array.replicate_succ, Array.replicate_zero, List.push_toArray, List.append_toArray, List.nil_append, List.cons_append]
  gi_wp2
  gi_loopw [5] (fun f wr => ∃ (kn : Nat) (pre : List Ends), f = .int .i64 kn ∧ kn ≤ xs.length ∧ Hid (cuts xs b h 0 = pre.map (·.1) ++ cuts xs b h kn) ∧ Hid (pre.length ≤ kn) ∧ J pre wr ∧ Below w.heap.size w wr ∧ Caps w.heap.size wr (.slice av xs.length cv) b h)
    (fun f wr => xs.length - (intOf f).toNat)
  case atStart => exact ⟨0, [], rfl, Nat.zero_le _, rfl, Nat.le_refl _, h0, hW, hc⟩
  case round =>
    obtain ⟨kn, pre, rfl, hkn, HC, HP, hJ, hB, hcap⟩ := hrel
    obtain ⟨wo, hwo⟩ : ∃ wo : World, wr = wo := ⟨_, rfl⟩
    subst hwo
    have h1 := hcap.a.cell
    have h2 := hcap.b.cell
    have h3 := hcap.c.cell
    by_cases hlt : kn < xs.length
    · have hu1 := untilL_gt xs kn b h hlt
      have hu2 := untilL_le xs kn b h
      have HS := Lib.hid (cuts_step xs b h kn hlt)
      have hun := until_any _ xs kn b h wr (HV.out.below hB) (by omega) hlt hb1 hb2 hh2
      have HU := Lib.hid hun; clear hun
      generalize untilL xs kn b h = u at *
      obtain ⟨fn, tmps, assign, body, hy, hR⟩ := hY pre ⟨(kn, u), by simp only; omega⟩ wr hJ (by have := HP.out; omega)
      dsimp only [encE] at hy
      have HR := Lib.hid hR; clear hR
      have h19 : Fence.wide.fn 19 := trivial
      gi_wp2_with (gi_at_call 19; refine (callsIn_wide.2 HU.out).mono ?_; rintro e w' ⟨rfl, rfl⟩)
      refine HR.out.mono ?_
      rintro e W3 (⟨rfl, hJ3, hk3⟩ | ⟨rfl, hJx3⟩)
      · gi_wp2
        go_roundw
        case rel =>
          refine ⟨u, pre ++ [⟨(kn, u), by simp only; omega⟩], rfl, by omega, ?_, ?_, hJ3, hB.trans hk3.below, hk3.of_caps hcap⟩
          · show _ = _
            rw [HC.out, HS.out]; simp
          · have := HP.out
            show (pre ++ [_]).length ≤ u
            rw [List.length_append, List.length_singleton]; omega
        case measure => simp [intOf]; omega
      · gi_wp2
        refine bodyPost_ret (results_none rfl _ _ _) rfl ?_
        exact ⟨⟨_, rfl⟩, .inr ⟨_, trivial, hJx3⟩⟩
    · gi_wp2
      go_end0
      refine ⟨⟨_, rfl⟩, .inl ⟨pre, ?_, hJ⟩⟩
      rw [HC.out, cuts_stop xs b h kn (by omega), List.append_nil]
end Go.Proofs.Yteoimmpbhkaacaa

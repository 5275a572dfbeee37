import Derived.Test.YteoimmpbhkaacaaRows
import Derived.Test.YteoimmpbhkaacaaPlain
import Derived.Test.YteoimmpbhkaacaaMem
import Derived.Outline
import Derived.LoopTactic
import Derived.WalkLawsBesides
import Derived.Deep.QuietTactic
import Derived.BigQuiet
namespace Go.Proofs.Yteoimmpbhkaacaa
open Go.RowKit PackL

set_option maxHeartbeats 400000 in
theorem same_quiet (a b : Value) (xss yss : List (List Int)) (w : World) (ha : Grid w a xss) (hb : Grid w b yss) (hla : xss.length ≤ 4611686018427387904) (hlb : yss.length ≤ 4611686018427387904)
    (hra : ∀ r ∈ xss, r.length ≤ 4611686018427387904) (hrb : ∀ r ∈ yss, r.length ≤ 4611686018427387904) :
    Calls Try.prog 8 #[a, b] w fun e w' => e = .returned (.bool (decide (xss = yss))) ∧ Drew w w' := by
  obtain ⟨pa, ca, rfl⟩ := ha.len
  obtain ⟨pb, cb, rfl⟩ := hb.len
  have HA := Lib.hid ha; clear ha
  have HB := Lib.hid hb; clear hb
  by_cases hl : xss.length = yss.length
  · have hl1 : (xss.length != yss.length) = false := by simp [hl]
    have HL := Lib.hid hl; clear hl
    go_enter Try.func8, Try.ntmps8
    go_wp2
    go_loopw [5] (fun k wr => ∃ kn : Nat, kn ≤ xss.length ∧ k = .int .i64 kn ∧ Hid (xss.take kn = yss.take kn) ∧ Drew w wr)
      (fun k _ => xss.length - (intOf k).toNat)
    case atStart => exact ⟨0, Nat.zero_le _, rfl, rfl, Drew.refl _⟩
    case round =>
      obtain ⟨k, hk, rfl, HT, hdr⟩ := hrel
      have hbel := hdr.below
      obtain ⟨wo, hwo⟩ : ∃ wo : World, wr = wo := ⟨_, rfl⟩
      subst hwo
      by_cases hlt : k < xss.length
      · have hlt2 : k < yss.length := by have := HL.out; omega
        obtain ⟨ba, oa, ca', e1⟩ := Grid.at HA.out hlt
        obtain ⟨bb, ob, cb', e2⟩ := Grid.at HB.out hlt2
        cases e1
        cases e2
        have hA2 := hra _ (List.getElem_mem hlt)
        have hB2 := hrb _ (List.getElem_mem hlt2)
        obtain ⟨ra, hra'⟩ : ∃ r, xss[k] = r := ⟨_, rfl⟩
        obtain ⟨rb, hrb'⟩ : ∃ r, yss[k] = r := ⟨_, rfl⟩
        rw [hra'] at hA2
        rw [hrb'] at hB2
        have HRA := Lib.hid hra'; clear hra'
        have HRB := Lib.hid hrb'; clear hrb'
        obtain ⟨ua, hua, ha'⟩ := (HA.out.below hbel).row hlt HRA.out
        obtain ⟨ub, hub, hb'⟩ := (HB.out.below hbel).row hlt2 HRB.out
        obtain ⟨pa2, ca2, rfl, _⟩ := ha'
        obtain ⟨pb2, cb2, rfl, _⟩ := hb'
        by_cases hl2 : ra.length = rb.length
        · have hl3 : (ra.length != rb.length) = false := by simp [hl2]
          have hl4 : ((ra.length : Int) != (rb.length : Int)) = false := by simp [hl2]
          have HL2 := Lib.hid hl2; clear hl2
          go_wp2
          go_quiet (fail)
          go_wp2
          go_loopw [6] (fun m wi => ∃ mn : Nat, mn ≤ ra.length ∧ m = .int .i64 mn ∧ Hid (ra.take mn = rb.take mn) ∧ Drew w wi)
            (fun m _ => ra.length - (intOf m).toNat)
          case atStart => exact ⟨0, Nat.zero_le _, rfl, rfl, hdr.more _⟩
          case round =>
            clear hua hub
            obtain ⟨m, hm, rfl, HM, hdi⟩ := hrel
            have hbi := hdi.below
            obtain ⟨ua, hua, ha'⟩ := (HA.out.below hbi).row hlt HRA.out
            obtain ⟨ub, hub, hb'⟩ := (HB.out.below hbi).row hlt2 HRB.out
            by_cases hmt : m < ra.length
            · have hmt2 : m < rb.length := by have := HL2.out; omega
              obtain ⟨b3, o3, c3, x, rfl, hx, hxe⟩ := ha'.at hmt
              obtain ⟨b4, o4, c4, y, rfl, hy, hye⟩ := hb'.at hmt2
              have HX := Lib.hid hxe; clear hxe
              have HY := Lib.hid hye; clear hye
              by_cases hxy : x = y
              · subst hxy
                go_wp2
                go_quiet (fail)
                go_wp2
                refine ⟨⟨m + 1, by omega, by go_num, ?_, hdi.more _⟩, by simp [intOf]; omega⟩
                show _ = _
                rw [List.take_succ_eq_append_getElem hmt, List.take_succ_eq_append_getElem hmt2, HM.out, HX.out, HY.out]
              · have hne : (x != y) = true := by simp [hxy]
                have hf : decide (xss = yss) = false := by
                  simp only [decide_eq_false_iff_not]
                  intro h
                  subst h
                  have e := HRA.out.symm.trans HRB.out
                  subst e
                  exact hxy (HX.out.symm.trans HY.out)
                have HF := Lib.hid hf; clear hf hxy
                go_wp2
                go_quiet (fail)
                go_wp2
                go_ret
                exact ⟨ret_bool HF.out.symm, hdi.more _⟩
            · obtain ⟨pa3, ca3, rfl, _⟩ := ha'
              obtain ⟨pb3, cb3, rfl, _⟩ := hb'
              go_wp2
              refine ⟨⟨k + 1, by omega, by go_num, ?_, hdi⟩, by simp [intOf]; omega⟩
              show _ = _
              have e : m = ra.length := by omega
              have h1 := HM.out
              rw [e, List.take_of_length_le (Nat.le_refl _), List.take_of_length_le (by have := HL2.out; omega)] at h1
              rw [List.take_succ_eq_append_getElem hlt, List.take_succ_eq_append_getElem hlt2, HT.out, HRA.out, HRB.out, h1]
        · have hl3 : (ra.length != rb.length) = true := by simp [hl2]
          have hl4 : ((ra.length : Int) != (rb.length : Int)) = true := by simp; omega
          have hf : decide (xss = yss) = false := by
            simp only [decide_eq_false_iff_not]
            intro h
            subst h
            exact hl2 (by rw [← HRA.out, ← HRB.out])
          have HF := Lib.hid hf; clear hf hl2
          go_wp2
          go_quiet (fail)
          go_wp2
          go_ret
          exact ⟨ret_bool HF.out.symm, hdr.more _⟩
      · have hf : decide (xss = yss) = true := by
          simp only [decide_eq_true_eq]
          have h1 := HT.out
          have h2 := HL.out
          rw [List.take_of_length_le (by omega), List.take_of_length_le (by omega)] at h1
          exact h1
        have HF := Lib.hid hf; clear hf
        go_wp2
        go_ret
        exact ⟨ret_bool HF.out.symm, hdr⟩
  · have hne : decide (xss = yss) = false := by
      simp only [decide_eq_false_iff_not]; intro h; exact hl (by rw [h])
    have HN := Lib.hid hne; clear hne
    have hl1 : (xss.length != yss.length) = true := by simp [hl]
    go_enter Try.func8, Try.ntmps8
    go_wp2
    go_ret
    exact ⟨ret_bool HN.out.symm, Drew.refl _⟩

theorem same_any (a b : Value) (xss yss : List (List Int)) (w : World) (ha : Grid w a xss) (hb : Grid w b yss) (hla : xss.length ≤ 4611686018427387904) (hlb : yss.length ≤ 4611686018427387904)
    (hra : ∀ r ∈ xss, r.length ≤ 4611686018427387904) (hrb : ∀ r ∈ yss, r.length ≤ 4611686018427387904) :
    Calls Try.prog 8 #[a, b] w fun e w' => e = .returned (.bool (decide (xss = yss))) ∧ Below w.heap.size w w' :=
  (same_quiet a b xss yss w ha hb hla hlb hra hrb).mono fun _ _ h => ⟨h.1, h.2.below⟩
end Go.Proofs.Yteoimmpbhkaacaa

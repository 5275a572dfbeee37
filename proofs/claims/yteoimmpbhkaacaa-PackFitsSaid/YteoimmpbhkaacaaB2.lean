/- PackFits answers true. -/
import Derived.Test.YteoimmpbhkaacaaB1
namespace Go.Proofs.Yteoimmpbhkaacaa
open Go.RowKit PackL

set_option maxRecDepth 100000 in
set_option maxHeartbeats 2000000 in
theorem fits_walk (v : Value) (xs : List Int) (b h : Int) (w : World) (hv : Ints w v xs) (hl : xs.length ≤ 9223372036854775807)
    (hx1 : ∀ x ∈ xs, -9223372036854775808 ≤ x ∧ x ≤ 9223372036854775807)
    (hb1 : -9223372036854775808 ≤ b) (hb2 : b ≤ 9223372036854775807) (hh2 : h ≤ 9223372036854775807) :
    Calls Try.prog 4 #[v, .int .i64 b, .int .i64 h] w fun e w' => e = .returned (.bool true) ∧ Below w.heap.size w w' := by
  obtain ⟨pv, cv, rfl, _⟩ := id hv
  have HV0 := Lib.hid hv; clear hv
  have HX := Lib.hid hx1; clear hx1
  by_cases ht : Tame xs b h
  · have HT := Lib.hid ht; clear ht
    go_enter Try.func4, Try.ntmps4
    go_wp2_with fail
    refine (small_any _).mono ?_
    rintro e wa ⟨rfl, hba⟩
    go_wp2_with fail
    refine (tame_yes _ _ _ _ _ (HV0.out.below hba) HT.out).mono ?_
    rintro e wa2 ⟨rfl, rfl⟩
    go_wp2_with fail
    refine (pack_any _ xs b h _ (HV0.out.below hba) HT.out.len hb1 hb2 hh2).mono ?_
    rintro e wb ⟨l, rfl, hg, hbb⟩
    replace hbb := hba.trans (hbb.mono hba.size)
    have HV := Lib.hid (HV0.out.below hbb)
    have hlen := HT.out.len
    have hpl := packL_length xs b h
    obtain ⟨pl, cl, rfl⟩ := hg.len
    have HG := Lib.hid hg
    have HB := Lib.hid hbb
    clear hg hbb hba HV0 hl
    go_wp2_with fail
    go_loop [9, 10] (fun nx i => ∃ (kn : Nat) (pre : List (Nat × Nat)), nx = .int .i64 kn ∧ i = .int .i64 pre.length ∧ kn ≤ xs.length ∧ Hid (cuts xs b h 0 = pre ++ cuts xs b h kn) ∧ pre.length ≤ (packL xs b h).length)
      (fun _ i => (packL xs b h).length - (intOf i).toNat)
    case atStart => exact ⟨0, [], rfl, rfl, Nat.zero_le _, rfl, Nat.zero_le _⟩
    case round =>
      obtain ⟨kn, pre, rfl, rfl, hkn, HC, hpre⟩ := hrel
      by_cases hlt : kn < xs.length
      · have hu1 := untilL_gt xs kn b h hlt
        have hu2 := untilL_le xs kn b h
        have HF := Lib.hid (until_fits xs kn b h hlt)
        have HFu := Lib.hid (until_full xs kn b h hlt)
        have hun := until_neg xs kn b h hlt
        have HUN := Lib.hid hun; clear hun
        have HS := Lib.hid (cuts_step xs b h kn hlt)
        have HA := Lib.hid (alone_wt xs kn b h hlt)
        generalize untilL xs kn b h = u at *
        obtain ⟨hi, hie⟩ := packL_at xs b h pre _ _ (by rw [HC.out, HS.out])
        obtain ⟨bl, ol, cl', e⟩ := HG.out.at hi
        cases e
        obtain ⟨ug, hug, hig⟩ := HG.out.row hi hie
        rcases hig.cases with ⟨e, _⟩ | ⟨bg, og, cg, rfl, _, hpos, hcells⟩
        · have := span_length (kn, u); rw [e] at this; simp at this; omega
        have HIG := Lib.hid hig; clear hig hie
        have HCE : Hid (∀ m, m < u - kn → wb.cell? ⟨bg, og + m, none⟩ = some (.int .i64 ((kn + m : Nat) : Int))) := fun m hm => by
          rw [hcells m (by rw [span_length]; exact hm), span_get]
        clear hcells hpos
        have hslen := span_length (kn, u)
        simp only at hslen
        rw [hslen] at hug HIG
        clear hslen
        have hw1 := wt_le xs h HT.out.sizes HT.out.head kn (u - kn) (by omega)
        rw [show kn + (u - kn) = u from by omega] at hw1
        obtain ⟨hw1, hw2⟩ := hw1
        replace hw1 : wt xs kn u h ≤ 1125899906842624 := by omega
        have hne : ((u - kn : Nat) == 0) = false := by simp; omega
        obtain ⟨pre2, HP2, HC2⟩ : ∃ pre2 : List (Nat × Nat), Hid (pre2.length = pre.length + 1) ∧ Hid (cuts xs b h 0 = pre2 ++ cuts xs b h u) :=
          ⟨pre ++ [(kn, u)], by show _ = _; simp, by show _ = _; rw [HC.out, HS.out]; simp⟩
        generalize hP : (packL xs b h).length = P at *
        have HP := Lib.hid hP; clear hP
        go_wp2
        go_loop [9, 11] (fun nx k => ∃ m : Nat, m ≤ u - kn ∧ k = .int .i64 m ∧ nx = .int .i64 ((kn + m : Nat) : Int)) (fun _ k => u - kn - (intOf k).toNat)
        case atStart => exact ⟨0, Nat.zero_le _, rfl, rfl⟩
        case round =>
          obtain ⟨m, hm, rfl, rfl⟩ := hrel
          by_cases hmt : m < u - kn
          · have hce := HCE.out m hmt
            go_wp2
            refine ⟨⟨m + 1, by omega, by go_num, ?_⟩, by simp [intOf]; omega⟩
            rw [show ((kn : Int) + (m : Int) + 1) = ((kn + (m + 1) : Nat) : Int) from by omega]
          · have hmu : kn + m = u := by omega
            have hce := HCE.out 0 (by omega)
            rw [Nat.add_zero, Nat.add_zero] at hce
            rw [hmu]
            clear hmu
            go_wp2_with fail
            refine (weight_any _ _ xs kn u b h _ HV.out HIG.out HT.out (by omega) hu2).mono ?_
            rintro e wc ⟨rfl, rfl⟩
            have FIN : Hid ((∃ (kn : Nat) (pre_1 : List (Nat × Nat)), Value.int .i64 u = .int .i64 kn ∧ Value.int .i64 ((pre.length : Int) + 1) = .int .i64 pre_1.length ∧ kn ≤ xs.length ∧ Hid (cuts xs b h 0 = pre_1 ++ cuts xs b h kn) ∧ pre_1.length ≤ P) ∧
                P - (intOf (Value.int .i64 ((pre.length : Int) + 1))).toNat < P - (intOf (Value.int .i64 (pre.length : Int))).toNat) :=
              ⟨⟨u, pre2, rfl, by rw [HP2.out]; go_num, hu2, HC2, by rw [HP2.out]; omega⟩, by simp [intOf]; omega⟩
            clear HP2 HC2 HS HC
            by_cases hb : b ≤ 0
            · have hul := HUN.out hb
              have hul2 : xs.length ≤ u := by omega
              clear hul HUN HF HFu HA
              generalize wt xs kn u h = W at *
              go_wp2
              exact FIN.out
            · by_cases hs1 : u = kn + 1
              · have hd := HA.out (by omega)
                rw [← hs1] at hd
                obtain ⟨bv, ov, cv', x, e', hx, hxe⟩ := HV.out.at hlt
                cases e'
                rw [hxe] at hd
                have HD := Lib.hid hd
                have hxr := HX.out _ (List.getElem_mem hlt)
                rw [hxe] at hxr
                obtain ⟨hxr1, hxr2⟩ := hxr
                have hs2 : ((u - kn : Nat) == 1) = true := by simp; omega
                have hs3 : (((u - kn : Nat) : Int) == 1) = true := by simp; omega
                clear hd hxe HA HF HUN
                by_cases hul : u < xs.length
                · obtain ⟨bv2, ov2, cv2, y, e', hy, hye⟩ := HV.out.at hul
                  cases e'
                  obtain ⟨_, hf⟩ := HFu.out hul
                  rw [wt_succ xs kn u h (by omega) hul, hye] at hf
                  have hyb := HT.out.sizes _ (List.getElem_mem hul)
                  rw [hye] at hyb
                  clear HFu hye
                  have HS1 := Lib.hid hs1; clear hs1
                  generalize wt xs kn u h = W at *
                  by_cases hy0 : y < 0
                  all_goals by_cases hbW : b < W
                  all_goals try (exfalso; omega)
                  all_goals
                    have hal : aloneL x b h = decide (b < W) := HD.out.symm
                    simp only [hbW, decide_true, decide_false] at hal
                    have HAL := Lib.hid hal; clear hal
                    go_wp2_with (go_at_call 11; refine (alone_any _ _ _ _ hb1 hb2 hh2 hxr2).mono ?_; rintro e w' ⟨rfl, rfl⟩; rw [HAL.out])
                    exact FIN.out
                · clear HFu
                  have HS1 := Lib.hid hs1; clear hs1
                  generalize wt xs kn u h = W at *
                  by_cases hbW : b < W
                  all_goals
                    have hal : aloneL x b h = decide (b < W) := HD.out.symm
                    simp only [hbW, decide_true, decide_false] at hal
                    have HAL := Lib.hid hal; clear hal
                    go_wp2_with (go_at_call 11; refine (alone_any _ _ _ _ hb1 hb2 hh2 hxr2).mono ?_; rintro e w' ⟨rfl, rfl⟩; rw [HAL.out])
                    exact FIN.out
              · have hf := HF.out (by omega) hs1
                have hs2 : ((u - kn : Nat) == 1) = false := by simp; omega
                have hs3 : (((u - kn : Nat) : Int) == 1) = false := by simp; omega
                have HS1 := Lib.hid hs1; clear hs1
                clear HA HF HUN
                by_cases hul : u < xs.length
                · obtain ⟨bv2, ov2, cv2, y, e', hy, hye⟩ := HV.out.at hul
                  cases e'
                  obtain ⟨_, hf2⟩ := HFu.out hul
                  rw [wt_succ xs kn u h (by omega) hul, hye] at hf2
                  have hyb := HT.out.sizes _ (List.getElem_mem hul)
                  rw [hye] at hyb
                  clear HFu hye
                  generalize wt xs kn u h = W at *
                  have hy0 : ¬ y < 0 := by omega
                  go_wp2
                  exact FIN.out
                · clear HFu
                  generalize wt xs kn u h = W at *
                  go_wp2
                  exact FIN.out
      · have hkl : kn = xs.length := by omega
        have hpl2 : pre.length = (packL xs b h).length := by
          have := HC.out
          rw [cuts_stop xs b h kn (by omega), List.append_nil] at this
          simp [packL, this]
        have HP := Lib.hid hpl2
        subst hkl
        rw [hpl2]
        clear hpl2
        generalize (packL xs b h).length = P at *
        go_wp2
        go_ret
        exact ⟨rfl, HB.out⟩
  · go_enter Try.func4, Try.ntmps4
    go_wp2_with fail
    refine (small_any _).mono ?_
    rintro e wa ⟨rfl, hba⟩
    go_wp2_with fail
    refine (tame_no _ _ _ _ _ (HV0.out.below hba) hl ht).mono ?_
    rintro e wa2 ⟨rfl, rfl⟩
    go_wp2
    go_ret
    exact ⟨rfl, hba⟩
end Go.Proofs.Yteoimmpbhkaacaa

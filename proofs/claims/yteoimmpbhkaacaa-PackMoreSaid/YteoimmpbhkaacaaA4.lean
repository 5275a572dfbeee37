import Derived.Test.YteoimmpbhkaacaaA1
import Derived.Test.YteoimmpbhkaacaaMem2
import Derived.Deep.DeepCutAuto
import Derived.Deep.CutRange
import Derived.Deep.CutBlock
import Derived.Maps.AppendAt
namespace Go.Proofs.Yteoimmpbhkaacaa
open Go.RowKit PackL

theorem Try.info3 : (Try.prog.info? 3).map (fun i => (i.zero, i.size, i.bytes)) = some (some (.int .i64 0), 1, 8) := by kernel_rfl
theorem Try.info22 : (Try.prog.info? 22).map (fun i => (i.zero, i.size, i.bytes)) = some (some (.slice none 0 0), 1, 24) := by kernel_rfl

/-- What a call that hands back a grid leaves. -/
def GivesGrid (w : World) (xss : List (List Int)) (e : Ending) (w' : World) : Prop := ∃ v, e = .returned v ∧ Grid w' v xss ∧ Below w.heap.size w w'

set_option maxRecDepth 100000 in
set_option maxHeartbeats 800000 in
theorem refpack_any (v : Value) (xs : List Int) (b h : Int) (w : World) (hv : Ints w v xs) (hl : xs.length ≤ 300) 
   (hb1 : -9223372036854775808 ≤ b) (hb2 : b ≤ 9223372036854775807) (hh2 : h ≤ 9223372036854775807) :
    Calls Try.prog 10 #[v, .int .i64 b, .int .i64 h] w (GivesGrid w (packL xs b h)) := by
  obtain ⟨a, cap, rfl, _⟩ := id hv
  have HV := Lib.hid hv; clear hv
  obtain ⟨i3, hi3, hz3, hs3, hb3⟩ := info_parts Try.info3
  obtain ⟨i22, hi22, hz22, hs22, hb22⟩ := info_parts Try.info22
  have HI3 := Lib.hid (And.intro hi3 (And.intro hz3 (And.intro hs3 hb3))); clear hi3 hz3 hs3 hb3
  have HI22 := Lib.hid (And.intro hi22 (And.intro hz22 (And.intro hs22 hb22))); clear hi22 hz22 hs22 hb22
  go_enter Try.func10, Try.ntmps10
  go_wp2_with fail
  go_loopw [7, 8] (fun out f wr => ∃ (kn : Nat) (pre : List (Nat × Nat)), f = .int .i64 kn ∧ kn ≤ xs.length ∧ Hid (cuts xs b h 0 = pre ++ cuts xs b h kn) ∧ Hid (pre.length ≤ kn) ∧ Built 22 3 w.heap.size wr out (pre.map span) ∧ Below w.heap.size w wr)
    (fun _ f _ => xs.length - (intOf f).toNat)
  case atStart => exact ⟨0, [], rfl, Nat.zero_le _, rfl, Nat.le_refl _, Built.nil _ _ _ _, Below.refl _ _⟩
  case round =>
    obtain ⟨kn, pre, rfl, hkn, HC, HP, hB, hbel⟩ := hrel
    obtain ⟨wo, hwo⟩ : ∃ wo : World, wr = wo := ⟨_, rfl⟩
    subst hwo
    obtain ⟨ao, co, rfl⟩ := hB.len
    by_cases hlt : kn < xs.length
    · go_upto_block 2 with (go_at_call 16; refine (rest_gen _ _ _ (by omega) (by omega)).mono ?_; rintro e w' ⟨rfl, rfl⟩)
      go_cut [9, 10] from 13 to 81 (fun _ s10 wx => wx = wr ∧ s10 = .int .i64 (untilL xs kn b h))
      case first =>
        have HR0 : Hid (RefInv xs b h kn kn (restL b h)) := by
          show RefInv _ _ _ _ _ _
          by_cases hb : b ≤ 0
          · exact .inl hb
          · exact .inr (.inl ⟨rfl, by unfold restL; rw [if_neg hb]⟩)
        have HR1 : Hid (0 < b → restL b h ≤ 9223372036854775807) := fun hb => by
          unfold restL
          rw [if_neg (by omega)]
          omega
        generalize restL b h = R at *
        go_wp2_with fail
        go_loop [9, 10] (fun r k => ∃ (kk : Nat) (rr : Int), k = .int .i64 kk ∧ r = .int .i64 rr ∧ kn ≤ kk ∧ kk ≤ xs.length ∧ Hid (0 < b → rr ≤ 9223372036854775807) ∧ Hid (RefInv xs b h kn kk rr))
          (fun _ k => xs.length - (intOf k).toNat)
        case atStart => exact ⟨kn, R, rfl, rfl, Nat.le_refl _, hkn, HR1, HR0⟩
        case round =>
          clear HR0 HR1
          obtain ⟨k, r, rfl, rfl, hk1, hk2, HRB, HR⟩ := hrel
          by_cases hkt : k < xs.length
          · obtain ⟨ba, oa, ca, x, e, hx, hxe⟩ := (HV.out.below hbel).at hkt
            cases e
            have HX := Lib.hid hxe; clear hxe
            by_cases hkk : k = kn
            · subst hkk
              by_cases hb : b ≤ 0
              · go_wp2_with (go_at_call 17; refine (size_any _ _).mono ?_; rintro e w' ⟨rfl, rfl⟩)
                go_round
                case rel => exact ⟨k + 1, _, by go_num, rfl, by omega, by omega, fun _ => by omega, .inl hb⟩
                case measure => simp [intOf]; omega
              · have hr0 : ¬ b ≤ 0 → r = b - max h 0 := fun _ => by
                  rcases HR.out with h1 | ⟨_, h2⟩ | ⟨h1, _⟩ | ⟨h1, _⟩
                  · omega
                  · exact h2
                  · omega
                  · omega
                have hr1 : -9223372036854775808 ≤ r ∧ r ≤ 9223372036854775807 := by have := hr0 hb; omega
                obtain ⟨hr2, hr3⟩ := hr1
                clear hr0
                by_cases hbig : r < max x 0
                · have HN := HR.out.big hkt HX.out (by omega) (.inl rfl) hbig
                  have HN' := Lib.hid HN; clear HN
                  go_wp2_with (go_at_call 17; refine (size_any _ _).mono ?_; rintro e w' ⟨rfl, rfl⟩)
                  go_round
                  case rel => exact ⟨k + 1, _, by go_num, rfl, by omega, by omega, fun _ => by omega, HN'⟩
                  case measure => simp [intOf]; omega
                · have HN := HR.out.fits hkt HX.out (by omega)
                  have HN' := Lib.hid HN; clear HN
                  go_wp2_with (go_at_call 17; refine (size_any _ _).mono ?_; rintro e w' ⟨rfl, rfl⟩)
                  go_round
                  case rel => exact ⟨k + 1, _, by go_num, rfl, by omega, by omega, fun _ => by omega, HN'⟩
                  case measure => simp [intOf]; omega
            · have hne : ((k : Int) == (kn : Int)) = false := by simp; omega
              have HKK := Lib.hid hkk; clear hkk
              by_cases hb : b ≤ 0
              · go_wp2_with (go_at_call 17; refine (size_any _ _).mono ?_; rintro e w' ⟨rfl, rfl⟩)
                go_round
                case rel => exact ⟨k + 1, _, by go_num, rfl, by omega, by omega, fun _ => by omega, .inl hb⟩
                case measure => simp [intOf]; omega
              · by_cases hneg : r < 0
                · have hu := HR.out.stop hlt hkt HX.out (by omega) HKK.out (.inl hneg)
                  have HU := Lib.hid hu; clear hu
                  go_wp2_with (go_at_call 17; refine (size_any _ _).mono ?_; rintro e w' ⟨rfl, rfl⟩)
                  go_meet
                  case rel => exact ⟨rfl, by rw [← HU.out]⟩
                · by_cases hbig : r < max x 0
                  · have hu := HR.out.stop hlt hkt HX.out (by omega) HKK.out (.inr hbig)
                    have HU := Lib.hid hu; clear hu
                    go_wp2_with (go_at_call 17; refine (size_any _ _).mono ?_; rintro e w' ⟨rfl, rfl⟩)
                    go_meet
                    case rel => exact ⟨rfl, by rw [← HU.out]⟩
                  · have HN := HR.out.fits hkt HX.out (by omega)
                    have hr3 := HRB.out (by omega)
                    have HN' := Lib.hid HN; clear HN
                    go_wp2_with (go_at_call 17; refine (size_any _ _).mono ?_; rintro e w' ⟨rfl, rfl⟩)
                    go_round
                    case rel => exact ⟨k + 1, _, by go_num, rfl, by omega, by omega, fun _ => by omega, HN'⟩
                    case measure => simp [intOf]; omega
          · have hu := HR.out.done hlt (by omega : k = xs.length)
            have HU := Lib.hid hu; clear hu
            go_wp2_with fail
            go_meet
            case rel => exact ⟨rfl, by rw [← HU.out]⟩
      case rest =>
        obtain ⟨rfl, rfl⟩ := hcut
        have hu1 := untilL_gt xs kn b h hlt
        have hu2 := untilL_le xs kn b h
        have HS := Lib.hid (cuts_step xs b h kn hlt)
        generalize untilL xs kn b h = u at *
        go_wp2
        go_loopw [11, 12] (fun g i wl => ∃ m : Nat, kn ≤ m ∧ m ≤ u ∧ i = .int .i64 m ∧ wl.ownsRow wc.heap.size 3 1 g (m - kn) (iv (span (kn, m))) ∧ Below wc.heap.size wc wl)
          (fun _ i _ => u - (intOf i).toNat)
        case atStart => exact ⟨kn, Nat.le_refl _, by omega, rfl, by rw [span_nil, Nat.sub_self]; exact World.ownsRow_nil _ _ _ _, Below.refl _ _⟩
        case round =>
          obtain ⟨m, hm1, hm2, rfl, hown, hbl⟩ := hrel
          obtain ⟨wo, hwo⟩ : ∃ wo : World, wr = wo := ⟨_, rfl⟩
          subst hwo
          obtain ⟨ag, cg, rfl⟩ := ownsRow_slice hown
          have hsz := hbl.size
          by_cases hmu : m < u
          · obtain ⟨hi3, hz3, hs3, hb3⟩ := HI3.out
            go_wp2_with (at_builtin; refine wpList_append_own _ rfl _ _ 22 rfl wc.heap.size 3 i3 (.int .i64 0) 1 8 Try.underlying22 hi3 hz3 hs3 hb3 rfl (by decide) _ _ _ rfl (hown.alloc _) ⟨wr.heap.size, 0, none⟩ 1 1 [.int .i64 m] rfl rfl (cell_one_new _ _ _) (by simp [Value.oneCell']) (by unfold maxLen; omega) (by omega) (by simp; omega) ?_; intro v' w1 hown' hgrow _)
            have hb1 := (hbl.alloc hsz (.cells #[Value.int .i64 m] 3)).grown hgrow (by simp; omega) (fun k e => (hown.lt k e).1)
            refine ⟨⟨m + 1, by omega, by omega, by go_num, ?_, hb1⟩, by simp [intOf]; omega⟩
            rw [show m + 1 - kn = m - kn + 1 from by omega, ← span_succ kn m hm1]
            simpa [iv] using hown'
          · obtain ⟨hi22, hz22, hs22, hb22⟩ := HI22.out
            have hmu' : m = u := by omega
            subst hmu'
            obtain ⟨vs, hv1, hv2⟩ := hB.below hbl
            have hsz0 := hbel.size
            have hP := HP.out
            have hvl : (pre.map span).length = pre.length := List.length_map _
            rw [hvl] at hv1
            have HV2 := Lib.hid hv2; clear hv2 hvl
            go_wp2_with (at_builtin; refine wpList_append_own _ rfl _ _ 25 rfl w.heap.size 22 i22 (.slice none 0 0) 1 24 Try.underlying25 hi22 hz22 hs22 hb22 rfl (by decide) _ _ _ rfl (hv1.alloc _) ⟨wr.heap.size, 0, none⟩ 1 1 [.slice ag (m - kn) cg] rfl rfl (cell_one_new _ _ _) (by simp [Value.oneCell']) (by unfold maxLen; omega) (by omega) (by simp; omega) ?_; intro v' w1 hown' hgrow _)
            have hb1 := ((hbel.trans (hbl.mono hsz0)).alloc (by omega) (.cells #[Value.slice ag (m - kn) cg] 22)).grown hgrow (by simp; omega) (fun k e => (hv1.lt k e).1)
            refine ⟨⟨m, pre ++ [(kn, m)], rfl, by omega, ?_, ?_, ?_, hb1⟩, by simp [intOf]; omega⟩
            · show _ = _
              rw [HC.out, HS.out]; simp
            · show (pre ++ [(kn, m)]).length ≤ m
              rw [List.length_append, List.length_singleton]; omega
            · rw [List.map_append]
              have hgrow' : (wr.alloc (.cells #[Value.slice ag (m - kn) cg] 22)).grownBy w1 (Value.slice ao pre.length co).ownBlock := hgrow
              exact Built.push (by decide) (by simpa using hv1.alloc (.cells #[Value.slice ag (m - kn) cg] 22)) (fun i hi => by obtain ⟨u, hu, hr⟩ := HV2.out i hi; exact ⟨u, hu, hr.alloc _⟩) (ownsRow_base (hown.alloc _) hsz0) (by simpa using hown') hgrow'
    · have hkk : kn = xs.length := by omega
      have hC := HC.out
      rw [cuts_stop xs b h kn (by omega)] at hC
      have HC2 := Lib.hid hC; clear hC hkk
      have hgr := hB.grid
      go_wp2
      go_ret
      exact ⟨_, rfl, by unfold packL; rw [HC2.out]; simpa using hgr, hbel⟩
end Go.Proofs.Yteoimmpbhkaacaa

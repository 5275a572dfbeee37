/- PackFewest answers true. -/
import Derived.Test.YteoimmpbhkaacaaB1
import Derived.Test.YteoimmpbhkaacaaPlain3
namespace Go.Proofs.Yteoimmpbhkaacaa
open Go.RowKit PackL

theorem fewest_next {xs : List Int} {b h : Int} {fn nn : Nat} {ns : List Nat} (HD : Hid (∀ r, Div xs b h fn r → Div xs b h 0 (ns ++ r))) (hl : Light xs b h fn (fn + nn)) (h1 : 1 ≤ nn) (h2 : fn + nn ≤ xs.length) :
    Hid (∃ ns', ns'.length = ns.length + 1 ∧ Hid (∀ r, Div xs b h (fn + nn) r → Div xs b h 0 (ns' ++ r))) :=
  ⟨ns ++ [nn], by simp, fun r hr => by rw [List.append_assoc]; exact HD.out _ (.cons fn nn r h1 h2 hl hr)⟩

theorem fewest_end {xs ls : List Int} {b h : Int} {fn nn : Nat} {ns : List Nat} {w wr : World} (hlt : ns.length < ls.length) (H : Hid (∃ ns', ns'.length = ns.length + 1 ∧ Hid (∀ r, Div xs b h (fn + nn) r → Div xs b h 0 (ns' ++ r))))
    (h2 : fn + nn ≤ xs.length) (hb : Below w.heap.size w wr) :
    ∃ (f : Nat) (ns' : List Nat), Value.int .i64 ((fn : Int) + (nn : Int)) = .int .i64 f ∧ Value.int .i64 ((ns.length : Int) + 1) = .int .i64 ns'.length ∧ f ≤ xs.length ∧ ns'.length ≤ ls.length ∧
      Hid (∀ r, Div xs b h f r → Div xs b h 0 (ns' ++ r)) ∧ Below w.heap.size w wr := by
  obtain ⟨ns', h1, h3⟩ := H.out
  exact ⟨fn + nn, ns', by go_num, by rw [h1]; go_num, h2, by omega, h3, hb⟩

set_option maxRecDepth 100000 in
set_option maxHeartbeats 2000000 in
theorem fewest_walk (v lv : Value) (xs ls : List Int) (b h : Int) (w : World) (hv : Ints w v xs) (hlv : Ints w lv ls) (hl : xs.length ≤ 9223372036854775807) (hll : ls.length ≤ 9223372036854775807)
    (hls : ∀ x ∈ ls, -9223372036854775808 ≤ x ∧ x ≤ 9223372036854775807)
    (hb1 : -9223372036854775808 ≤ b) (hb2 : b ≤ 9223372036854775807) (hh2 : h ≤ 9223372036854775807) :
    Calls Try.prog 5 #[v, .int .i64 b, .int .i64 h, lv] w fun e w' => e = .returned (.bool true) ∧ Below w.heap.size w w' := by
  obtain ⟨pv, cv, rfl, _⟩ := id hv
  obtain ⟨pl, cl, rfl, _⟩ := id hlv
  have HV := Lib.hid hv; clear hv
  have HLV := Lib.hid hlv; clear hlv
  have HLS := Lib.hid hls; clear hls
  by_cases ht : Tame xs b h
  · by_cases hl300 : ls.length ≤ 300
    · have hlen := ht.len
      have HT := Lib.hid ht; clear ht
      obtain ⟨i3, hi3, hz3, hs3, hb3⟩ := info_parts Try.info3
      have HI3 := Lib.hid (And.intro hi3 (And.intro hz3 (And.intro hs3 hb3))); clear hi3 hz3 hs3 hb3
      go_enter Try.func5, Try.ntmps5
      go_wp2_with fail
      refine (small_any _).mono ?_
      rintro e wa ⟨rfl, hba⟩
      go_wp2_with fail
      refine (tame_yes _ _ _ _ _ (HV.out.below hba) HT.out).mono ?_
      rintro e wa2 ⟨rfl, rfl⟩
      go_wp2_with fail
      go_loopw [10, 11] (fun f i wr => ∃ (fn : Nat) (ns : List Nat), f = .int .i64 fn ∧ i = .int .i64 ns.length ∧ fn ≤ xs.length ∧ ns.length ≤ ls.length ∧ Hid (∀ r, Div xs b h fn r → Div xs b h 0 (ns ++ r)) ∧ Below w.heap.size w wr)
        (fun _ i _ => ls.length - (intOf i).toNat)
      case atStart => exact ⟨0, [], rfl, rfl, Nat.zero_le _, Nat.zero_le _, fun r hr => hr, hba⟩
      case round =>
        clear hba
        obtain ⟨fn, ns, rfl, rfl, hfn, hns, HD, hbel⟩ := hrel
        obtain ⟨wo, rfl⟩ : ∃ wo : World, wo = wr := ⟨_, rfl⟩
        by_cases hlt : ns.length < ls.length
        · obtain ⟨bl, ol, cl', n, e, hn, hne⟩ := (HLV.out.below hbel).at hlt
          cases e
          have hnr := HLS.out _ (List.getElem_mem hlt)
          rw [hne] at hnr
          clear hne
          obtain ⟨hn1, hn2⟩ := hnr
          by_cases h1 : n < 1
          · go_wp2
            go_ret
            exact ⟨rfl, hbel⟩
          · by_cases h2 : (xs.length : Int) - fn < n
            · go_wp2
              go_ret
              exact ⟨rfl, hbel⟩
            · obtain ⟨nn, rfl⟩ := Int.eq_ofNat_of_zero_le (show 0 ≤ n from by omega)
              go_wp2
              go_loopw [13, 14] (fun g j wl => ∃ m : Nat, fn ≤ m ∧ m ≤ fn + nn ∧ j = .int .i64 m ∧ wl.ownsRow wo.heap.size 3 1 g (m - fn) (iv (span (fn, m))) ∧ Below wo.heap.size wo wl)
                (fun _ j _ => fn + nn - (intOf j).toNat)
              case atStart => exact ⟨fn, Nat.le_refl _, by omega, rfl, by rw [span_nil, Nat.sub_self]; exact World.ownsRow_nil _ _ _ _, Below.refl _ _⟩
              case round =>
                obtain ⟨m, hm1, hm2, rfl, hown, hbl⟩ := hrel
                obtain ⟨wi, rfl⟩ : ∃ wi : World, wi = wr := ⟨_, rfl⟩
                obtain ⟨ag, cg, rfl⟩ := ownsRow_slice hown
                have hsz := hbl.size
                by_cases hmu : m < fn + nn
                · obtain ⟨hi3, hz3, hs3, hb3⟩ := HI3.out
                  go_wp2_with (at_builtin; refine wpList_append_own _ rfl _ _ 22 rfl wo.heap.size 3 i3 (.int .i64 0) 1 8 Try.underlying22 hi3 hz3 hs3 hb3 rfl (by decide) _ _ _ rfl (hown.alloc _) ⟨wi.heap.size, 0, none⟩ 1 1 [.int .i64 m] rfl rfl (cell_one_new _ _ _) (by simp [Value.oneCell']) (by unfold maxLen; omega) (by omega) (by simp; omega) ?_; intro v' w1 hown' hgrow _)
                  have hb1 := (hbl.alloc hsz (.cells #[Value.int .i64 m] 3)).grown hgrow (by simp; omega) (fun k e => (hown.lt k e).1)
                  refine ⟨⟨m + 1, by omega, by omega, by go_num, ?_, hb1⟩, by simp [intOf]; omega⟩
                  rw [show m + 1 - fn = m - fn + 1 from by omega, ← span_succ fn m hm1]
                  simpa [iv] using hown'
                · obtain rfl : m = fn + nn := by omega
                  have hbw := hbel.trans (hbl.mono hbel.size)
                  have hgi := ownsRow_ints hown
                  rw [Nat.add_sub_cancel_left] at hgi
                  have HG := Lib.hid hgi
                  have HBW := Lib.hid hbw
                  clear hown hgi hbw hbl hbel hsz
                  by_cases hb : b ≤ 0
                  · have FIN := fewest_next HD (show Light xs b h fn (fn + nn) from .inl hb) (by omega) (by omega)
                    go_wp2
                    exact ⟨fewest_end hlt FIN (by omega) HBW.out, by simp [intOf]; omega⟩
                  · by_cases hn1' : nn ≤ 1
                    · have FIN := fewest_next HD (show Light xs b h fn (fn + nn) from .inr (.inl (by omega))) (by omega) (by omega)
                      go_wp2
                      exact ⟨fewest_end hlt FIN (by omega) HBW.out, by simp [intOf]; omega⟩
                    · go_wp2_with fail
                      refine (weight_any _ _ xs fn (fn + nn) b h _ (HV.out.below HBW.out) HG.out HT.out (by omega) (by omega)).mono ?_
                      rintro e wc ⟨rfl, rfl⟩
                      by_cases hW : wt xs fn (fn + nn) h ≤ b
                      · have FIN := fewest_next HD (show Light xs b h fn (fn + nn) from .inr (.inr hW)) (by omega) (by omega)
                        generalize wt xs fn (fn + nn) h = W at *
                        go_wp2
                        exact ⟨fewest_end hlt FIN (by omega) HBW.out, by simp [intOf]; omega⟩
                      · generalize wt xs fn (fn + nn) h = W at *
                        go_wp2
                        go_ret
                        exact ⟨rfl, HBW.out⟩
        · by_cases hf : fn = xs.length
          · have hdiv := HD.out [] (by rw [hf]; exact .nil)
            have hfew := div_fewest xs b h _ 0 0 hdiv (Nat.le_refl _)
            rw [List.append_nil] at hfew
            have hq : ((fn : Int) != (xs.length : Int)) = false := by simp [hf]
            have HFW := Lib.hid (show (packL xs b h).length ≤ ls.length from by rw [packL_len]; omega)
            clear hfew hdiv hf
            go_wp2_with fail
            refine (pack_any _ xs b h _ (HV.out.below hbel) hlen hb1 hb2 hh2).mono ?_
            rintro e wb ⟨l, rfl, hg, hbb⟩
            replace hbb := hbel.trans (hbb.mono hbel.size)
            obtain ⟨pg, cg, rfl⟩ := hg.len
            clear hg
            have hle := HFW.out
            go_wp2
            go_ret
            exact ⟨rfl, hbb⟩
          · have hq : ((fn : Int) != (xs.length : Int)) = true := by simp; omega
            have HF := Lib.hid hf; clear hf
            go_wp2
            go_ret
            exact ⟨rfl, hbel⟩
    · go_enter Try.func5, Try.ntmps5
      go_wp2_with fail
      refine (small_any _).mono ?_
      rintro e wa ⟨rfl, hba⟩
      go_wp2_with fail
      refine (tame_yes _ _ _ _ _ (HV.out.below hba) ht).mono ?_
      rintro e wa2 ⟨rfl, rfl⟩
      go_wp2
      go_ret
      exact ⟨rfl, hba⟩
  · go_enter Try.func5, Try.ntmps5
    go_wp2_with fail
    refine (small_any _).mono ?_
    rintro e wa ⟨rfl, hba⟩
    go_wp2_with fail
    refine (tame_no _ _ _ _ _ (HV.out.below hba) hl ht).mono ?_
    rintro e wa2 ⟨rfl, rfl⟩
    go_wp2
    go_ret
    exact ⟨rfl, hba⟩
end Go.Proofs.Yteoimmpbhkaacaa

import Derived.Test.YteoimmpbhkaacaaA6
namespace Go.Proofs.Yteoimmpbhkaacaa
open Go.RowKit Go.Shelf PackL
attribute [local go_sem] Oper.semAt_some

theorem pack_push {s : Nat} {wr w1 : World} {v v' : Value} {pre : List Ends} {vs : List Value} {a m : Nat} {ag : Option Addr} {cg k : Nat} {t : TypeId} (hP : ((pre.map (·.1)).map span).length = pre.length)
    (hr1 : wr.ownsRow (s + 4) 22 1 v pre.length vs)
    (HV2 : Hid (∀ i (h : i < ((pre.map (·.1)).map span).length), ∃ u, vs[i]? = some u ∧ wr.ownsRow (s + 4) 3 1 u ((pre.map (·.1)).map span)[i].length (iv ((pre.map (·.1)).map span)[i])))
    (hown : wr.ownsRow (s + 4) 3 1 (.slice ag k cg) k (iv (span (a, m))))
    (hown' : w1.ownsRow (s + 4) 22 1 v' (pre.length + 1) (vs ++ [.slice ag k cg])) (hgrow : (wr.alloc (.cells #[.slice ag k cg] t)).grownBy w1 v.ownBlock) :
    Built 22 3 (s + 4) w1 v' ((pre.map (·.1)).map span ++ [span (a, m)]) := by
  rw [← hP] at hr1 hown'
  exact Built.push (by decide) (hr1.alloc _) (fun i hi => by obtain ⟨u, hu, hr⟩ := HV2.out i hi; exact ⟨u, hu, hr.alloc _⟩) (hown.alloc _) hown' hgrow

set_option maxRecDepth 100000 in
set_option maxHeartbeats 2000000 in
theorem pack_in (v : Value) (xs : List Int) (b h : Int) (w : World) (hv : Ints w v xs) (hl : xs.length ≤ 300)
    (hb1 : -9223372036854775808 ≤ b) (hb2 : b ≤ 9223372036854775807) (hh2 : h ≤ 9223372036854775807) :
    CallsIn Fence.wide 4 Try.prog 9 #[v, .int .i64 b, .int .i64 h] w (GivesGrid w (packL xs b h)) := by
  obtain ⟨av, cv, rfl, _⟩ := id hv
  have HV := Lib.hid hv; clear hv
  obtain ⟨i3, hi3, hz3, hs3, hb3⟩ := info_parts Try.info3
  obtain ⟨i22, hi22, hz22, hs22, hb22⟩ := info_parts Try.info22
  have HI3 := Lib.hid (And.intro hi3 (And.intro hz3 (And.intro hs3 hb3))); clear hi3 hz3 hs3 hb3
  have HI22 := Lib.hid (And.intro hi22 (And.intro hz22 (And.intro hs22 hb22))); clear hi22 hz22 hs22 hb22
  refine callsIn_of_wp_marks Try.func9 rfl trivial ?_ rfl
  simp only [Try.ntmps9, List.size_toArray, List.length_cons, List.length_nil, Nat.reduceAdd, Nat.reduceSub, Array.replicate_succ, Array.replicate_zero, List.push_toArray, List.append_toArray, List.nil_append, List.cons_append]
  have h15 : Fence.wide.fn 15 := trivial
  gi_wp2_with (gi_at_call 15; refine (groups_in _ _ _ _ _ _).mono ?_; rintro e w' ⟨rfl, rfl⟩)
  have bO := Boxed.new w 25 (.slice none 0 0)
  have bA := Boxed.new (w.alloc (.cells #[.slice none 0 0] 25)) 22 (.slice av xs.length cv)
  have bB := Boxed.new ((w.alloc (.cells #[.slice none 0 0] 25)).alloc (.cells #[.slice av xs.length cv] 22)) 3 (.int .i64 b)
  have bC := Boxed.new (((w.alloc (.cells #[.slice none 0 0] 25)).alloc (.cells #[.slice av xs.length cv] 22)).alloc (.cells #[.int .i64 b] 3)) 3 (.int .i64 h)
  simp only [World.size_alloc] at bA bB bC
  obtain ⟨W0, hW0⟩ : ∃ W0, (((w.alloc (.cells #[.slice none 0 0] 25)).alloc (.cells #[.slice av xs.length cv] 22)).alloc (.cells #[.int .i64 b] 3)).alloc (.cells #[.int .i64 h] 3) = W0 := ⟨_, rfl⟩
  have hsz : W0.heap.size = w.heap.size + 4 := by rw [← hW0]; simp
  have bO0 : Boxed W0 w.heap.size 25 (.slice none 0 0) := by rw [← hW0]; exact ((bO.alloc _).alloc _).alloc _
  have hcap : Caps w.heap.size W0 (.slice av xs.length cv) b h := by
    rw [← hW0]; exact ⟨(bA.alloc _).alloc _, bB.alloc _, bC⟩
  have hB0 : Below w.heap.size w W0 := by
    rw [← hW0]; exact ((((Below.refl _ w).alloc (Nat.le_refl _) _).alloc (by simp) _).alloc (by simp; omega) _).alloc (by simp; omega) _
  rw [hW0]
  have HW0 := Lib.hid hW0; clear hW0 bO bA bB bC
  refine wpIn_rangeFunc_ownG rfl (by decide) (gf := 18) (lb := #[.pointer (some ⟨w.heap.size + 1, 0, none⟩), .pointer (some ⟨w.heap.size + 1 + 1, 0, none⟩), .pointer (some ⟨w.heap.size + 1 + 1 + 1, 0, none⟩)]) rfl trivial (enters_of Try.func18 (by kernel_rfl) rfl)
    (encs := encE) (Kp := KpP w.heap.size) (S := fun ys => ys.map (·.1) = cuts xs b h 0) (Sp := fun _ => True) (N := 300) (w0 := W0)
    (fun l J Jx W hW _ _ hY h0 => groups1_in l w.heap.size _ xs b h w W rfl HV.out hl hb1 hb2 hh2 J Jx hY (hB0.trans (hW.mono (by omega))) ((KpP.of_below (hW.mono (by omega))).of_caps hcap) h0)
    KpP.trans (kpp_b hsz) (Below.refl _ _) (fun _ => rfl)
    (fun pre W => (∃ v, Boxed W w.heap.size 25 v ∧ Built 22 3 (w.heap.size + 4) W v ((pre.map (·.1)).map span)) ∧ (Below w.heap.size w W ∧ w.heap.size + 4 ≤ W.heap.size))
    (fun _ _ _ => False)
    (OwnFrom.and (Own.from (built_own w.heap.size 25 22 3 (w.heap.size + 4) (fun pre : List Ends => (pre.map (·.1)).map span)) _) (OwnFrom.and (ownFrom_below (Nat.le_refl _) (by omega)) (fun _ _ _ _ hs hg _ => Nat.le_trans hs hg.size)))
    (fun _ _ _ _ _ hs _ _ => hs)
    ⟨⟨_, bO0, Built.nil _ _ _ _⟩, hB0, by omega⟩
    (fun x => { tmps := #[.slice av xs.length cv, .int .i64 b, .int .i64 h, undef, undef, undef, .slice none 0 0, .pointer (some ⟨w.heap.size, 0, none⟩), .int .i64 x.1.1, .int .i64 x.1.2, undef, undef, .slice av xs.length cv, .int .i64 b, .int .i64 h,
      .func (.func 18) #[] #[.pointer (some ⟨w.heap.size + 1, 0, none⟩), .pointer (some ⟨w.heap.size + 1 + 1, 0, none⟩), .pointer (some ⟨w.heap.size + 1 + 1 + 1, 0, none⟩)], .int .i64 x.1.1, .int .i64 x.1.2,
      undef, undef, undef, undef, undef, undef, undef, undef, undef, undef, undef, undef, undef, undef, undef, undef, undef, undef, undef], defers := [] }) ?assign ?body ?done ?stop
  case assign =>
    intro l x W K hK
    gi_wp2
    exact hK
  case body =>
    rintro l pre ⟨⟨a, z⟩, hx1, hx2⟩ W ⟨⟨v, hv, hbu⟩, hbel, hszW⟩ hlt
    dsimp only at hx1 hx2 ⊢
    obtain ⟨W', hW'⟩ : ∃ W' : World, W = W' := ⟨_, rfl⟩
    subst hW'
    obtain ⟨hi3, hz3, hs3, hb3⟩ := HI3.out
    gi_wp2_with (gi_at_make; refine wpListIn_make_own _ rfl _ _ 22 rfl W.heap.size 3 i3 (.int .i64 0) 1 Try.underlying22 hi3 hz3 hs3 .i64 .i64 _ (z - a) rfl rfl (by omega) (by rw [hb3]; omega) (by unfold maxLen; omega) (Nat.le_refl _) ?_; intro w0 hown0 hgrow0)
    gi_loopw [10, 11] (fun g i wl => ∃ m : Nat, a ≤ m ∧ m ≤ z ∧ i = .int .i64 m ∧ wl.ownsRow W.heap.size 3 1 g (m - a) (iv (span (a, m))) ∧ Below W.heap.size W wl)
      (fun _ i _ => z - (intOf i).toNat)
    case atStart => exact ⟨a, Nat.le_refl _, by omega, rfl, by rw [span_nil, Nat.sub_self]; exact hown0, (Below.refl _ _).grown hgrow0 (Nat.le_refl _) (fun k e => by cases e)⟩
    case round =>
      clear hown0 hgrow0
      obtain ⟨m, hm1, hm2, rfl, hown, hbl⟩ := hrel
      obtain ⟨wo, hwo⟩ : ∃ wo : World, wr = wo := ⟨_, rfl⟩
      subst hwo
      obtain ⟨ag, cg, rfl⟩ := ownsRow_slice hown
      have hsz := hbl.size
      by_cases hmu : m < z
      · gi_wp2_with (gi_at_builtin; refine wpListIn_append_own _ rfl _ _ 22 rfl W.heap.size 3 i3 (.int .i64 0) 1 8 Try.underlying22 hi3 hz3 hs3 hb3 rfl (by decide) _ _ _ rfl (hown.alloc _) ⟨wr.heap.size, 0, none⟩ 1 1 [.int .i64 m] rfl rfl (cell_one_new _ _ _) (by simp [Value.oneCell']) (by unfold maxLen; omega) (by omega) (by simp; omega) ?_; intro v' w1 hown' hgrow _)
        have hb1 := (hbl.alloc hsz (.cells #[Value.int .i64 m] 3)).grown hgrow (by simp; omega) (fun k e => (hown.lt k e).1)
        refine ⟨⟨m + 1, by omega, by omega, by go_num, ?_, hb1⟩, by simp [intOf]; omega⟩
        rw [show m + 1 - a = m - a + 1 from by omega, ← span_succ a m hm1]
        simpa [iv] using hown'
      · obtain ⟨hi22, hz22, hs22, hb22⟩ := HI22.out
        have hmu' : m = z := by omega
        subst hmu'
        have hv2 : Boxed wr w.heap.size 25 v := (hbl.block _ hv.lt).trans hv
        obtain ⟨vs, hr1, hr2⟩ := hbu.below hbl
        have hP : ((pre.map (·.1)).map span).length = pre.length := by simp
        rw [hP] at hr1
        have HV2 := Lib.hid hr2; clear hr2
        have hc := hv2.cell
        gi_wp2_with (gi_at_builtin; refine wpListIn_append_own _ rfl _ _ 25 rfl (w.heap.size + 4) 22 i22 (.slice none 0 0) 1 24 Try.underlying25 hi22 hz22 hs22 hb22 rfl (by decide) _ _ _ rfl (hr1.alloc _) ⟨wr.heap.size, 0, none⟩ 1 1 [.slice ag (m - a) cg] rfl rfl (cell_one_new _ _ _) (by simp [Value.oneCell']) (by unfold maxLen; omega) (by omega) (by simp; omega) ?_; intro v' w1 hown' hgrow _; obtain ⟨g', cap', rfl⟩ := ownsRow_succ hown'; obtain ⟨hv3, hv4, hk4, hkp4, hbu4⟩ := pack_step hv2 hr1 (by omega) hgrow (pack_push hP hr1 HV2 (ownsRow_base hown hszW) hown' hgrow); have hc1 := hv3.cell; have hf1 := hv3.frozen)
        refine ⟨((KeepsOthers.of_below hbl).trans hk4).from _, (KpP.of_below (hbl.mono hszW)).trans hkp4, ⟨_, hv4, ?_⟩, (hbel.trans (hbl.mono (by omega))).trans hkp4.below, ?_⟩
        · simpa using hbu4
        · have := hk4.size
          simp only [World.size_setCell] at this ⊢
          omega
  case done =>
    rintro D ys W hD hys ⟨⟨v, hv, hbu⟩, hB, hszW⟩ hK
    obtain ⟨ao, co, rfl⟩ := hbu.len
    have hc := hv.cell
    gi_wp2
    refine ⟨by simp, .inl ⟨_, _, rfl, run_takeDeferred hK, ?_⟩⟩
    refine ⟨_, results_tmp rfl _ _ _, _, rfl, ?_, hB.trans (belowK_b (w := w) (Nat.le_refl _) W D _ _ (by omega) hK rfl rfl)⟩
    have hg := (hbu.noncells (grownBy_putObj' W D (.deferred none)) (fun r e => by cases e; exact ⟨_, hK, rfl⟩)).grid
    rw [hys] at hg
    simpa [packL] using hg
  case stop =>
    rintro D c pre W _ _ h _
    exact h.elim

theorem pack_any (v : Value) (xs : List Int) (b h : Int) (w : World) (hv : Ints w v xs) (hl : xs.length ≤ 300)
    (hb1 : -9223372036854775808 ≤ b) (hb2 : b ≤ 9223372036854775807) (hh2 : h ≤ 9223372036854775807) :
    Calls Try.prog 9 #[v, .int .i64 b, .int .i64 h] w (GivesGrid w (packL xs b h)) := callsIn_wide.1 (pack_in v xs b h w hv hl hb1 hb2 hh2)
end Go.Proofs.Yteoimmpbhkaacaa

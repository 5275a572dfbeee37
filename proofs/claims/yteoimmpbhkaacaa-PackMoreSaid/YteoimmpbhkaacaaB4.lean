/- The region that lays out the sizes with one of them replaced. -/
import Derived.Test.YteoimmpbhkaacaaB1
import Derived.Test.YteoimmpbhkaacaaPlain4
import Derived.Deep.RegionLaw
import Derived.Deep.DeepCutAuto
import Derived.Deep.CutRange
import Derived.Deep.CutBlock
namespace Go.Proofs.Yteoimmpbhkaacaa
open Go.RowKit PackL

theorem step_append_own {P : Program} {ops : Array Oper} {o : Oper} {a : Act} {w : World} {K : Act → World → Prop} {Q : Exit → Act → World → Prop} {E : Prop}
    (hgd : o.guard = none) (s x : Operand) (t : TypeId) (ho : o.op = .call { callee := .builtin .append, args := #[s, x], argTypes := #[t, t] })
    (base : Nat) (e : TypeId) (i : TypeInfo) (z : Value) (size bytes : Nat) (ht : P.underlying t = some (.slice e)) (hi : P.info? e = some i) (hz : i.zero = some z)
    (hsize : i.size = size) (hby : i.bytes = bytes) (hzs : z.cells.size = size) (hsz : 0 < size)
    (v : Value) (n : Nat) (xs : List Value) (hs : a.eval s = v) (hown : w.ownsRow base e size v n xs)
    (ad : Addr) (m c : Nat) (news : List Value) (hx : a.eval x = .slice (some ad) m c) (hl : news.length = m * size) (hnews : ∀ j u, news[j]? = some u → w.cell? (ad.add j) = some u) (h1 : ∀ u ∈ news, u.oneCell' = true)
    (h63 : n + m ≤ maxLen) (hbytes : (n + m) * bytes ≤ 140737488355328) (hbase : base ≤ w.heap.size)
    (h : ∀ v' w', w'.ownsRow base e size v' (n + m) (xs ++ news) → w.grownBy w' v.ownBlock → K (a.put o.dst v') w') :
    if Region.wanted o (yielded ops a.tmps) = true then Oper.wp P o a w K Q else E := by
  rw [if_pos (by simp [Region.wanted, hgd])]
  exact wp_append_own w s x t ho base e i z size bytes ht hi hz hsize hby hzs hsz v n xs hs hown ad m c news hx hl hnews h1 h63 hbytes hbase fun v' w' h2 h3 _ => h v' w' h2 h3

theorem same_yesq (a b : Value) (xss : List (List Int)) (w : World) (ha : Grid w a xss) (hb : Grid w b xss) (hla : xss.length ≤ 4611686018427387904) (hra : ∀ r ∈ xss, r.length ≤ 4611686018427387904) :
    Calls Try.prog 8 #[a, b] w fun e w' => e = .returned (.bool true) ∧ Drew w w' :=
  (same_quiet a b xss xss w ha hb hla hla hra hra).mono fun e w' ⟨h1, h2⟩ => ⟨by rw [h1]; simp, h2⟩

theorem Grid.cap {w : World} {a : Option Addr} {n cap : Nat} {xss : List (List Int)} (h : Grid w (.slice a n cap) xss) : xss.length ≤ cap := by
  obtain ⟨a', cap', e, hc, _⟩ := h
  cases e
  exact hc

/-- Is one size replaced, and by one that is no greater? -/
def cndB (xs : List Int) (k s : Int) : Bool := decide (0 ≤ k) && decide (k < xs.length) && decide (s ≤ xs.getD k.toNat 0)

theorem cndB_true {xs : List Int} {k s : Int} (h : cndB xs k s = true) : ∃ kn : Nat, ∃ hk : kn < xs.length, k = kn ∧ s ≤ xs[kn] := by
  simp only [cndB, Bool.and_eq_true, decide_eq_true_eq] at h
  obtain ⟨⟨h1, h2⟩, h3⟩ := h
  refine ⟨k.toNat, by omega, by omega, ?_⟩
  rw [List.getD_eq_getElem?_getD, List.getElem?_eq_getElem (by omega)] at h3
  simpa using h3

/-- A stretch of a slice of integers, cell by cell, in every later world. -/
theorem ints_cells {w : World} {b off n cap : Nat} {xs : List Int} (h : Ints w (.slice (some ⟨b, off, none⟩) n cap) xs) (k m : Nat) :
    Hid (∀ W, Below w.heap.size w W → ∀ j u, (iv ((xs.drop k).take m))[j]? = some u → W.cell? ((⟨b, off + k, none⟩ : Addr).add j) = some u) := by
  intro W hW j u hu
  rcases h.cases with ⟨e, _⟩ | ⟨b', off', cap', e, _, _, hc⟩
  · subst e; simp at hu
  · cases e
    have hj : j < ((xs.drop k).take m).length := by
      have := (List.getElem?_eq_some_iff.1 hu).1
      simpa using this
    have hj2 : k + j < xs.length := by simp at hj; omega
    have h1 := hc (k + j) hj2
    have ea : (⟨b, off + k, none⟩ : Addr).add j = ⟨b, off + (k + j), none⟩ := by
      unfold Addr.add
      split
      · rename_i e; subst e; simp
      · simp [Nat.add_assoc]
    rw [ea, (hW.cell (p := ⟨b, off + (k + j), none⟩) (cell_lt h1)), h1]
    simp only [List.getElem?_map] at hu
    rw [List.getElem?_eq_getElem hj] at hu
    simp only [Option.map_some, Option.some.injEq, List.getElem_take, List.getElem_drop] at hu
    rw [← hu]

theorem bel1 (wd : World) (o : Obj) : Below wd.heap.size wd (wd.alloc o).drew := (below_alloc wd o).drew
theorem bel2 (wd : World) (o o' : Obj) : Below wd.heap.size wd ((wd.alloc o).alloc o').drew := ((below_alloc wd o).alloc (by simp) o').drew
theorem own1 (wd : World) (t : TypeId) : (wd.alloc (.cells #[] t)).drew.ownsRow wd.heap.size t 1 (.slice (some ⟨wd.heap.size, 0, none⟩) 0 0) 0 [] := World.ownsRow_made wd #[] 0 (Nat.le_refl _) (by decide) rfl
theorem own2 (wd : World) (t : TypeId) (o : Obj) : ((wd.alloc (.cells #[] t)).alloc o).drew.ownsRow wd.heap.size t 1 (.slice (some ⟨wd.heap.size, 0, none⟩) 0 0) 0 [] := (World.ownsRow_made wd #[] 0 (Nat.le_refl _) (by decide) rfl : (wd.alloc (.cells #[] t)).ownsRow wd.heap.size t 1 _ 0 []).alloc o
theorem own3 (wd : World) (t : TypeId) (o : Obj) : ((wd.alloc o).alloc (.cells #[] t)).drew.ownsRow wd.heap.size t 1 (.slice (some ⟨wd.heap.size + 1, 0, none⟩) 0 0) 0 [] := by
  have := World.ownsRow_made (base := wd.heap.size) (e := t) (size := 1) (wd.alloc o) #[] 0 (by simp) (by decide) rfl
  rw [World.size_alloc] at this
  exact this

theorem reg_b {wd W w1 : World} {v : Value} {n : Nat} {xs : List Value} (hW : Below wd.heap.size wd W) (hown : W.ownsRow wd.heap.size 3 1 v n xs) (hg : W.grownBy w1 v.ownBlock) : Below wd.heap.size wd w1 :=
  hW.grown hg hW.size (fun k e => (hown.lt k e).1)

theorem iv_one (xs : List Int) : ∀ u ∈ iv xs, u.oneCell' = true := by
  intro u hu
  obtain ⟨x, _, rfl⟩ := List.mem_map.1 hu
  rfl

theorem one_kept {W w1 : World} {row : Option Nat} {n : Nat} {x : Value} (hg : W.grownBy w1 row) (h : W.cell? ⟨n, 0, none⟩ = some x) (hne : some n ≠ row) : ∀ j u, [x][j]? = some u → w1.cell? ((⟨n, 0, none⟩ : Addr).add j) = some u := by
  intro j u hu
  match j, hu with
  | 0, hu =>
    simp at hu
    subst hu
    simpa [Addr.add] using hg.cell h hne

theorem Grid.addr {w : World} {a : Option Addr} {n cap : Nat} {xss : List (List Int)} (h : Grid w (.slice a n cap) xss) {k : Nat} {r : List Int} (hr : xss[k]? = some r) : ∃ b off, a = some ⟨b, off, none⟩ := by
  obtain ⟨hk, _⟩ := List.getElem?_eq_some_iff.1 hr
  obtain ⟨b, off, cap', e⟩ := h.at hk
  cases e
  exact ⟨b, off, rfl⟩

/-- One element of a grid, as a grid. -/
theorem Grid.one {w : World} {b off n cap : Nat} {xss : List (List Int)} (h : Grid w (.slice (some ⟨b, off, none⟩) n cap) xss) {k : Nat} {r : List Int} (hr : xss[k]? = some r) :
    Grid w (.slice (some ⟨b, off + k, none⟩) 1 (cap - k)) [r] := by
  obtain ⟨hk, e⟩ := List.getElem?_eq_some_iff.1 hr
  have hc := h.cap
  obtain ⟨u, hu, hi⟩ := h.row hk e
  refine Grid.mk rfl (by simp; omega) fun i hi' => ?_
  obtain rfl : i = 0 := by simp at hi'; omega
  exact ⟨u, by rw [Nat.add_zero]; exact hu, hi⟩

set_option maxRecDepth 100000 in
set_option maxHeartbeats 2000000 in
theorem more_walk (v : Value) (xs : List Int) (b h b' h' : Int) (k : Int) (s : Int) (w : World) (hv : Ints w v xs) (hl : xs.length ≤ 9223372036854775807)
    (hx : ∀ x ∈ xs, -9223372036854775808 ≤ x ∧ x ≤ 9223372036854775807)
    (hb1 : -9223372036854775808 ≤ b) (hb2 : b ≤ 9223372036854775807) (hh2 : h ≤ 9223372036854775807)
    (hb1' : -9223372036854775808 ≤ b') (hb2' : b' ≤ 9223372036854775807) (hh2' : h' ≤ 9223372036854775807) :
    Calls Try.prog 6 #[v, .int .i64 b, .int .i64 h, .int .i64 b', .int .i64 h', .int .i64 k, .int .i64 s] w fun e w' => e = .returned (.bool true) ∧ Below w.heap.size w w' := by
  obtain ⟨pv, cv, rfl, HCV, _⟩ := id hv
  have HV0 := Lib.hid hv; clear hv
  have HX := Lib.hid hx; clear hx
  by_cases hg : 300 < xs.length ∨ b < 1 ∨ b' < b ∨ h < h'
  · by_cases h1 : 300 < xs.length
    · clear hg
      go_enter Try.func6, Try.ntmps6
      go_wp2_with fail
      refine (small_any _).mono ?_
      rintro e wa ⟨rfl, hba⟩
      go_wp2
      go_ret
      exact ⟨rfl, hba⟩
    · by_cases h2 : b < 1
      · clear hg
        go_enter Try.func6, Try.ntmps6
        go_wp2_with fail
        refine (small_any _).mono ?_
        rintro e wa ⟨rfl, hba⟩
        go_wp2
        go_ret
        exact ⟨rfl, hba⟩
      · by_cases h3 : b' < b
        · clear hg
          go_enter Try.func6, Try.ntmps6
          go_wp2_with fail
          refine (small_any _).mono ?_
          rintro e wa ⟨rfl, hba⟩
          go_wp2
          go_ret
          exact ⟨rfl, hba⟩
        · have h4 : h < h' := by omega
          clear hg
          go_enter Try.func6, Try.ntmps6
          go_wp2_with fail
          refine (small_any _).mono ?_
          rintro e wa ⟨rfl, hba⟩
          go_wp2
          go_ret
          exact ⟨rfl, hba⟩
  · have hg1 : xs.length ≤ 300 := by omega
    have hg2 : ¬ b < 1 := by omega
    have hg3 : ¬ b' < b := by omega
    have hg4 : ¬ h < h' := by omega
    clear hg
    go_enter Try.func6, Try.ntmps6
    go_wp2_with fail
    refine (small_any _).mono ?_
    rintro e wa ⟨rfl, hba⟩
    go_wp2_with fail
    refine (pack_any _ xs b h _ (HV0.out.below hba) (by omega) hb1 hb2 hh2).mono ?_
    rintro e wb ⟨l, rfl, hgr, hbb⟩
    replace hbb := hba.trans (hbb.mono hba.size)
    clear hba
    obtain ⟨pl, cl, rfl⟩ := hgr.len
    go_wp2_with fail
    refine (pack_any _ xs b' h _ (HV0.out.below hbb) (by omega) hb1' hb2' hh2).mono ?_
    rintro e wc ⟨l2, rfl, hgr2, hbc⟩
    obtain ⟨p2, c2, rfl⟩ := hgr2.len
    have hgrc := hgr.below hbc
    replace hbc := hbb.trans (hbc.mono hbb.size)
    clear hbb hgr hgr2
    have hm1 := packL_more xs b b' h h (by omega) (by omega) (by omega)
    generalize hP : (packL xs b h).length = P at *
    have HP := Lib.hid hP; clear hP
    generalize (packL xs b' h).length = P2 at *
    go_wp2_with fail
    refine (pack_any _ xs b h' _ (HV0.out.below hbc) (by omega) hb1 hb2 hh2').mono ?_
    rintro e wd ⟨l3, rfl, hgr3, hbd⟩
    obtain ⟨p3, c3, rfl⟩ := hgr3.len
    have hgrd := hgrc.below hbd
    replace hbd := hbc.trans (hbd.mono hbc.size)
    clear hbc hgrc hgr3
    have hm2 := packL_more xs b b h h' (by omega) (by omega) (by omega)
    rw [HP.out] at hm2
    generalize (packL xs b h').length = P3 at *
    go_upto_region 7 with fail
    go_cut [76] from 20 (fun c wx => wd = wx ∧ c = .bool (cndB xs k s))
    case first =>
      by_cases hk1 : 0 ≤ k
      · by_cases hk2 : k < xs.length
        · obtain ⟨kn, rfl⟩ := Int.eq_ofNat_of_zero_le hk1
          obtain ⟨bv, ov, cv', x, e, hx, hxe⟩ := (HV0.out.below hbd).at (show kn < xs.length from by omega)
          cases e
          have hc : cndB xs kn s = decide (s ≤ x) := by
            unfold cndB
            rw [show decide ((0 : Int) ≤ kn) = true from by simp, show decide ((kn : Int) < xs.length) = true from by simpa using hk2, Int.toNat_natCast, List.getD_eq_getElem?_getD, List.getElem?_eq_getElem (by omega), hxe]
            simp
          have HC := Lib.hid hc; clear hc hxe
          go_wp2_with fail
          go_meet
          exact ⟨rfl, congrArg Value.bool HC.out.symm⟩
        · have hc : cndB xs k s = false := by unfold cndB; simp [hk2]
          have HC := Lib.hid hc; clear hc
          go_wp2_with fail
          go_meet
          exact ⟨rfl, congrArg Value.bool HC.out.symm⟩
      · have hc : cndB xs k s = false := by unfold cndB; simp [hk1]
        have HC := Lib.hid hc; clear hc
        go_wp2_with fail
        go_meet
        exact ⟨rfl, congrArg Value.bool HC.out.symm⟩
    case rest =>
      obtain ⟨rfl, rfl⟩ := hcut
      go_upto_if 76 with fail
      go_cut [17] from 20 (fun _ wx => Below wd.heap.size wd wx)
      case first =>
        cases hc : cndB xs k s with
        | false =>
          go_wp2_with fail
          go_meet
          exact Below.refl _ _
        | true =>
          obtain ⟨kn, hkl, rfl, hsx⟩ := cndB_true hc
          clear hc
          obtain ⟨i3, hi3, hz3, hs3, hb3⟩ := info_parts Try.info3
          have HVD := Lib.hid (HV0.out.below hbd)
          obtain ⟨bv, ov, cv', x, e, _, _⟩ := HVD.out.at hkl
          cases e
          have hcs1 : Hid (∀ W, Below wd.heap.size wd W → ∀ j u, (iv (xs.take kn))[j]? = some u → W.cell? ((⟨bv, ov, none⟩ : Addr).add j) = some u) := ints_cells HVD.out 0 kn
          have hcs2 : Hid (∀ W, Below wd.heap.size wd W → ∀ j u, (iv (xs.drop (kn + 1)))[j]? = some u → W.cell? ((⟨bv, ov + (kn + 1), none⟩ : Addr).add j) = some u) := by
            have := ints_cells HVD.out (kn + 1) (xs.length - (kn + 1))
            rw [List.take_of_length_le (by simp)] at this
            exact this
          have hl1 : (iv (xs.take kn)).length = kn * 1 := by simp; omega
          have hl2 : (iv (xs.drop (kn + 1))).length = (xs.length - (kn + 1)) * 1 := by simp
          have hkc : kn ≤ cv := by omega
          have hk1 : kn + 1 ≤ xs.length := by omega
          have hk0 : (0 : Int) ≤ (kn : Int) + 1 := by omega
          have hk2 : ((kn : Int) + 1).toNat = kn + 1 := by omega
          have hk3 : (kn : Int) + 1 ≤ (xs.length : Int) := by omega
          have hkw : IntKind.i64.wrap ((kn : Int) + 1) = (kn : Int) + 1 := IntWalk.i64_in _ (by omega)
          go_upto_region 8 with fail
          go_cut [17] from 20 (fun s17 wx => Ints wx s17 (put1 xs kn s) ∧ Below wd.heap.size wd wx)
          case first =>
            obtain ⟨ad, had, hcs3⟩ : ∃ ad, (if cv = kn + 1 then some (⟨bv, ov, none⟩ : Addr) else some ⟨bv, ov + (kn + 1), none⟩) = some ad ∧ Hid (∀ W, Below wd.heap.size wd W → ∀ j u, (iv (xs.drop (kn + 1)))[j]? = some u → W.cell? (ad.add j) = some u) := by
              by_cases hcap : cv = kn + 1
              · refine ⟨_, if_pos hcap, fun W _ j u hu => ?_⟩
                rw [List.drop_eq_nil_of_le (by omega)] at hu
                simp at hu
              · exact ⟨_, if_neg hcap, hcs2⟩
            · go_region_law (first
                | (refine step_append_own rfl (.tmp 77) (.tmp 80) 22 rfl wd.heap.size 3 i3 (.int .i64 0) 1 8 Try.underlying22 hi3 hz3 hs3 hb3 rfl (by decide) _ 0 [] rfl (by first | exact own1 wd 3 | exact own2 wd 3 _ | exact own3 wd 3 _) ⟨bv, ov, none⟩ kn cv (iv (xs.take kn)) rfl hl1 (hcs1.out _ (by first | exact bel1 wd _ | exact bel2 wd _ _)) (iv_one _) (by unfold maxLen; omega) (by omega) (by first | exact (bel1 wd _).size | exact (bel2 wd _ _).size) ?_; intro v1 w1 hown1 hg1; simp only [Nat.zero_add, List.nil_append] at hown1; have hB1 : Below wd.heap.size wd w1 := (by first | exact reg_b (bel1 wd _) (own1 wd 3) hg1 | exact reg_b (bel2 wd _ _) (own2 wd 3 _) hg1 | exact reg_b (bel2 wd _ _) (own3 wd 3 _) hg1); have hz1 := hB1.size; replace hg1 : World.grownBy _ w1 (some _) := hg1)
                | (refine step_append_own rfl (.tmp 81) (.tmp 83) 22 rfl wd.heap.size 3 i3 (.int .i64 0) 1 8 Try.underlying22 hi3 hz3 hs3 hb3 rfl (by decide) _ kn (iv (xs.take kn)) rfl (by first | exact hown1 | exact hown1.alloc _) ⟨_, 0, none⟩ 1 1 [.int .i64 s] rfl rfl (by first | exact cell_one_new _ _ _ | exact one_kept hg1 (by simp) (by simp)) (by simp [Value.oneCell']) (by unfold maxLen; omega) (by omega) (by first | exact hz1 | (simp <;> omega)) ?_; intro v2 w2 hown2 hg2; have hB2 : Below wd.heap.size wd w2 := (by first | exact hB1.grown hg2 hz1 (fun k e => (hown1.lt k e).1) | exact (hB1.alloc hz1 _).grown hg2 (by simp <;> omega) (fun k e => (hown1.lt k e).1)); have hz2 := hB2.size)
                | (refine step_append_own rfl (.tmp 84) (.tmp 88) 22 rfl wd.heap.size 3 i3 (.int .i64 0) 1 8 Try.underlying22 hi3 hz3 hs3 hb3 rfl (by decide) v2 (kn + 1) (iv (xs.take kn) ++ [Value.int .i64 s]) rfl hown2 ad (xs.length - (kn + 1)) (cv - (kn + 1)) (iv (xs.drop (kn + 1))) rfl hl2 (hcs3.out _ hB2) (iv_one _) (by unfold maxLen; omega) (by omega) hz2 ?_; intro v3 w3 hown3 hg3; have hB3 := hB2.grown hg3 hz2 (fun k e => (hown2.lt k e).1))
                | fail)
              all_goals
                have hi3' := ownsRow_ints (xs := put1 xs kn s) (by simpa [put1, iv] using hown3)
                go_wp2_with fail
                go_meet
                exact ⟨hi3', hB3⟩
          case rest =>
            obtain ⟨hic, hbc⟩ := hcut
            have hpl := put1_length xs kn s hkl
            have hle := packL_less xs b h kn s hkl hsx
            rw [HP.out] at hle
            obtain ⟨pc, cc, rfl, _⟩ := id hic
            have HPL := Lib.hid hpl
            have HIC := Lib.hid hic
            have hl300 : (put1 xs kn s).length ≤ 300 := by omega
            clear hpl hic hkw hk0 hk2 hk3
            go_wp2_with fail
            refine (pack_any _ (put1 xs kn s) b h _ HIC.out hl300 hb1 hb2 hh2).mono ?_
            rintro e we ⟨lc, rfl, hgc, hbe⟩
            obtain ⟨p4, c4, rfl⟩ := hgc.len
            replace hbe := hbc.trans (hbe.mono hbc.size)
            clear hgc hbc
            generalize (packL (put1 xs kn s) b h).length = P4 at *
            go_wp2_with fail
            go_meet
            exact hbe
      case rest =>
        have hgre := hgrd.below hcut
        have hbe := hbd.trans (hcut.mono hbd.size)
        clear hcut hgrd hbd
        by_cases hne : xs.length = 0
        · have hp0 : P = 0 := by have := packL_length xs b h; have := HP.out; omega
          subst hp0
          clear hm1 hm2
          have hz : ((xs.length : Int) == 0) = true := by simp [hne]
          have HNE := Lib.hid hne; clear hne
          go_wp2
          go_ret
          exact ⟨rfl, hbe⟩
        · obtain ⟨hp0, hq, hrows⟩ := packL_init xs b h (by omega)
          rw [HP.out] at hp0 hq
          have HROWS : Hid (∀ i, i + 1 < P → ∃ r, (packL (xs.take (xs.length - 1)) b h)[i]? = some r ∧ (packL xs b h)[i]? = some r) := fun i hi => by
            obtain ⟨h1, h2, h3⟩ := hrows i (by rw [HP.out]; exact hi)
            exact ⟨_, List.getElem?_eq_getElem h1, by rw [h3]; exact List.getElem?_eq_getElem h2⟩
          have hz : ((xs.length : Int) == 0) = false := beq_eq_false_iff_ne.2 (by omega)
          have hIt : Ints wc (.slice pv (xs.length - 1) cv) (xs.take (xs.length - 1)) := by
            have := (HV0.out.below hbe).take (xs.length - 1) (by omega)
            exact this
          have hlt : (xs.take (xs.length - 1)).length ≤ 300 := Nat.le_trans (List.length_take_le _ _) (by omega)
          have hcv : xs.length ≤ cv := HCV
          have HNE := Lib.hid hne; clear hne hrows
          generalize hys : xs.take (xs.length - 1) = ys at *
          have HYS := Lib.hid hys; clear hys
          have hpos : 1 ≤ xs.length := by have := HNE.out; omega
          go_wp2_with fail
          refine (pack_any _ ys b h _ hIt hlt hb1 hb2 hh2).mono ?_
          rintro e we ⟨m, rfl, hgm, hbm⟩
          have hgre' := hgre.below hbm
          replace hbe := hbe.trans (hbm.mono hbe.size)
          clear hgre hbm hIt
          obtain ⟨pm, cm, rfl⟩ := hgm.len
          have HGM := Lib.hid hgm
          have HGL := Lib.hid hgre'
          clear hgm hgre'
          generalize hQ : (packL ys b h).length = Q at *
          have HQ := Lib.hid hQ; clear hQ
          have hd1 : ((P : Int) == 0) = false := by simp; omega
          have hq1 : Q ≤ P := by omega
          have hq2 : P ≤ Q + 1 := by omega
          have hP3 : P ≤ 300 := by have := packL_length xs b h; have := HP.out; omega
          have hbew := Lib.hid hbe
          have hcase : (((Q : Int) != (P : Int)) = false) ∨ (((Q : Int) != (P : Int)) = true ∧ ((Q : Int) != (P : Int) - 1) = false) := by
            rcases hq with e | e
            · exact .inl (by simp [e])
            · exact .inr ⟨by simp; omega, by simp; omega⟩
          clear hq hbe
          rcases hcase with hd2 | ⟨hd2, hd3⟩
          all_goals
            go_wp2_with fail
            go_loopw [19] (fun i wr => ∃ n : Nat, n ≤ P ∧ i = .int .i64 n ∧ Drew we wr) (fun i _ => P - (intOf i).toNat)
            case atStart => exact ⟨0, Nat.zero_le _, rfl, Drew.refl _⟩
            case round =>
              obtain ⟨n, hn, rfl, hdr⟩ := hrel
              obtain ⟨wo, rfl⟩ : ∃ wo : World, wo = wr := ⟨_, rfl⟩
              by_cases hlt : n + 1 < P
              · obtain ⟨r, hr1, hr2⟩ := HROWS.out n hlt
                obtain ⟨bm, om, rfl⟩ := HGM.out.addr hr1
                obtain ⟨bl, ol, rfl⟩ := HGL.out.addr hr2
                have hcm := HGM.out.cap
                have hcl := HGL.out.cap
                rw [HQ.out] at hcm
                rw [HP.out] at hcl
                have g1 := (HGM.out.below hdr.below).one hr1
                have g2 := (HGL.out.below hdr.below).one hr2
                have hrl : r.length ≤ 300 := by
                  have := packL_row xs b h r (List.mem_of_getElem? hr2)
                  omega
                have G1 := Lib.hid g1
                have G2 := Lib.hid g2
                have HR := Lib.hid hrl
                clear g1 g2 hr1 hr2 hrl
                have hge : decide ((Q : Int) ≤ (n : Int)) = false := by simp; omega
                have hge2 : decide (Q ≤ n) = false := by simp; omega
                go_wp2_with fail
                go_quiet ((go_at_call 8; refine Calls.quiet_of (same_yesq _ _ [r] _ (G1.out.below (below_drews (Below.refl _ _) _)) (G2.out.below (below_drews (Below.refl _ _) _)) (by simp) (by have := HR.out; simp; omega))))
                go_wp2
                refine ⟨⟨n + 1, by omega, by go_num, hdr.more _⟩, by simp [intOf]; omega⟩
              · go_wp2
                go_ret
                exact ⟨rfl, hbew.out.trans (hdr.below.mono hbew.out.size)⟩
end Go.Proofs.Yteoimmpbhkaacaa

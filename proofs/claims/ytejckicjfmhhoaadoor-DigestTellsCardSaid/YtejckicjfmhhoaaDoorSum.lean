/- What Sum returns. -/
import Derived.Test.YtejckicjfmhhoaaDoorProc
import Derived.Test.YtejckicjfmhhoaaDoorPad
import Derived.Lib.AppendStr
import Derived.Laws.IdiomStrings
import Derived.Maps.AppendAt
import Derived.Lib.Strings
namespace Go.Proofs.YtejckicjfmhhoaaDoor
open Go.RowKit Dg

/-- Bytes as the cells of a row. -/
def bc (l : List UInt8) : List Value := l.map fun c => .int .u8 (c.toNat : Int)

theorem Tryd.info5 : (Tryd.prog.info? 5).map (fun i => (i.zero, i.size, i.bytes)) = some (some (.int .u8 0), 1, 1) := by kernel_rfl

theorem own_string {w : World} {base g cap : Nat} {l : List UInt8} {n : Nat} (h : w.ownsRow base 5 1 (.slice (some ⟨g, 0, none⟩) n cap) n (bc l)) :
    (convert 30 9 (.slice (some ⟨g, 0, none⟩) n cap)).run Tryd.prog w = .ok (.string ⟨l.toArray⟩) w := by
  have hn : n = l.length := by have := h.1; simp [bc] at this; omega
  subst hn
  refine run_convert_bytes_back w 30 9 5 ⟨g, 0, none⟩ cap l Tryd.underlying30 Tryd.underlying5 Tryd.underlying9 fun j hj => ?_
  have ea : (⟨g, 0, none⟩ : Addr).add j = ⟨g, j, none⟩ := by
    unfold Addr.add
    split
    · rename_i e; subst e; rfl
    · simp
  rw [ea, h.cellAt j (by omega)]
  simp [bc, hj]

theorem initRow : (wv init.list).toArray = #[.int .u32 1779033703, .int .u32 3144134277, .int .u32 1013904242, .int .u32 2773480762, .int .u32 1359893119, .int .u32 2600822924, .int .u32 528734635, .int .u32 1541459225] := rfl

theorem begin_any (w : World) : Calls Tryd.prog 30 #[] w fun e w' => e = .returned (.agg (wv init.list).toArray) ∧ w' = w.alloc (.cells (wv init.list).toArray 39) := by
  rw [initRow]
  go_enter Tryd.func30, Tryd.ntmps30
  go_wp2
  refine bodyPost_ret (v := .agg #[.int .u32 1779033703, .int .u32 3144134277, .int .u32 1013904242, .int .u32 2773480762, .int .u32 1359893119, .int .u32 2600822924, .int .u32 528734635, .int .u32 1541459225]) (by simp [results, Tryd.f30, go_sem]) rfl ⟨rfl, rfl⟩

theorem extract_size (s : ByteArray) (a b : Nat) (h : b ≤ s.size) : (s.extract a b).size = b - a := by
  rw [ByteArray.size_extract]; omega

theorem blocks_succ : ∀ (k : Nat) (st : St) (bs : List UInt8), blocks (k + 1) st bs = block (blocks k st bs) ((bs.drop (64 * k)).take 64)
  | 0, st, bs => by simp [blocks]
  | k + 1, st, bs => by
    rw [blocks, blocks_succ k]
    show _ = block (blocks k (block st (bs.take 64)) (bs.drop 64)) _
    rw [List.drop_drop]
    congr 3
    omega

theorem sum_next {w : World} {g k : Nat} {st : St} {r : ByteArray} {bs : List UInt8} (HR : Hid (r.data.toList = bs.drop (64 * k))) (h : Row w g 39 (block (blocks k st bs) (r.extract 0 64).data.toList).list) :
    Hid ((r.extract 64 r.size).data.toList = bs.drop (64 * (k + 1))) ∧ Row w g 39 (blocks (k + 1) st bs).list := by
  have hr := HR.out
  refine ⟨?_, ?_⟩
  · show _ = _
    rw [Lib.extract_data, hr, List.drop_drop, List.take_of_length_le (by rw [← List.drop_drop, ← hr]; simp)]
    congr 1
  · rw [blocks_succ]
    rw [Lib.extract_data, hr] at h
    simpa using h

theorem sz_byte (m k : Nat) : ((m : Int) / 2 ^ k % 256) = ((UInt8.ofNat (m >>> k)).toNat : Int) := by
  rw [UInt8.toNat_ofNat', Nat.shiftRight_eq_div_pow]
  simp

theorem size_own {w : World} {base : Nat} {v : Value} {n : Nat} {l l' : List UInt8} {m j : Nat} {x : Int} (h : w.ownsRow base 5 1 v n (bc l' ++ [.int .u8 x])) (HL : Hid (l' = l ++ (size8 m).take j)) (hj : j < 8)
    (hx : x = (m : Int) / 2 ^ (56 - 8 * j) % 256) : ∃ l2, Hid (l2 = l ++ (size8 m).take (j + 1)) ∧ w.ownsRow base 5 1 v n (bc l2) := by
  rw [sz_byte] at hx
  refine ⟨l' ++ [UInt8.ofNat (m >>> (56 - 8 * j))], ?_, by rw [hx] at h; simpa [bc] using h⟩
  show _ = _
  rw [HL.out, List.append_assoc]
  congr 1
  rcases (show j = 0 ∨ j = 1 ∨ j = 2 ∨ j = 3 ∨ j = 4 ∨ j = 5 ∨ j = 6 ∨ j = 7 by omega) with e | e | e | e | e | e | e | e <;> subst e <;> simp [size8]

def sliceLen : Value → Nat
  | .slice _ n _ => n
  | _ => 0
theorem ownsRow_slice {w : World} {base : Nat} {e : TypeId} {size : Nat} {v : Value} {n : Nat} {xs : List Value} (h : w.ownsRow base e size v n xs) : ∃ a cap, v = .slice a n cap := by
  rcases h.2 with ⟨rfl, h0⟩ | ⟨g, cap, cur, rfl, _⟩
  · exact ⟨none, 0, by rw [h0]⟩
  · exact ⟨_, cap, rfl⟩

theorem cells_new (w : World) (xs : List Value) (t : TypeId) : ∀ j u, xs[j]? = some u → (w.alloc (.cells xs.toArray t)).cell? ((⟨w.heap.size, 0, none⟩ : Addr).add j) = some u := by
  intro j u hj
  have ea : (⟨w.heap.size, 0, none⟩ : Addr).add j = ⟨w.heap.size, j, none⟩ := by
    unfold Addr.add
    split
    · rename_i e; subst e; rfl
    · simp
  rw [ea]
  have := heap_alloc_new w (.cells xs.toArray t)
  unfold World.cell?
  rw [this]
  simpa using hj

theorem word_own {w : World} {base : Nat} {v : Value} {n : Nat} {l : List UInt8} (x : Word)
    (h : w.ownsRow base 5 1 v n (bc l ++ [.int .u8 (wn x / 16777216 % 256), .int .u8 (wn x / 65536 % 256), .int .u8 (wn x / 256 % 256), .int .u8 (wn x % 256)])) : w.ownsRow base 5 1 v n (bc (l ++ bytes4 x)) := by
  rw [shr_w x 24 16777216 rfl, shr_w x 16 65536 rfl, shr_w x 8 256 rfl, lo_w, lo_w, lo_w, lo_w] at h
  simpa [bc, bytes4] using h

theorem ownsRow_addr {w : World} {base : Nat} {e : TypeId} {size n : Nat} {v : Value} {xs : List Value} (h : w.ownsRow base e size v n xs) (hn : 0 < n) : ∃ g cap, v = .slice (some ⟨g, 0, none⟩) n cap := by
  rcases h.2 with ⟨rfl, h0⟩ | ⟨g, cap, cur, rfl, _⟩
  · omega
  · exact ⟨g, cap, rfl⟩

def strLen : Value → Nat
  | .string s => s.size
  | _ => 0

set_option maxRecDepth 100000 in
set_option maxHeartbeats 2000000 in
theorem sum_any (s : ByteArray) (w : World) (hs : s.size ≤ 1000000) (hK : KT w) (hpos : 0 < w.heap.size) :
    Calls Tryd.prog 18 #[.string s] w fun e w' => e = .returned (.string ⟨(sumL s.data.toList).toArray⟩) ∧ Below w.heap.size w w' := by
  go_enter Tryd.func18, Tryd.ntmps18
  go_wp2_with fail
  refine (begin_any _).mono ?_
  rintro e w1 ⟨rfl, rfl⟩
  rw [initRow]
  go_wp2_with fail
  have hrow0 : Row ((w.alloc (.cells #[.int .u32 1779033703, .int .u32 3144134277, .int .u32 1013904242, .int .u32 2773480762, .int .u32 1359893119, .int .u32 2600822924, .int .u32 528734635, .int .u32 1541459225] 39)).alloc
      (.cells #[.int .u32 1779033703, .int .u32 3144134277, .int .u32 1013904242, .int .u32 2773480762, .int .u32 1359893119, .int .u32 2600822924, .int .u32 528734635, .int .u32 1541459225] 39)) (w.heap.size + 1) 39 init.list := by
    have := heap_alloc_new (w.alloc (.cells #[.int .u32 1779033703, .int .u32 3144134277, .int .u32 1013904242, .int .u32 2773480762, .int .u32 1359893119, .int .u32 2600822924, .int .u32 528734635, .int .u32 1541459225] 39)) (.cells #[.int .u32 1779033703, .int .u32 3144134277, .int .u32 1013904242, .int .u32 2773480762, .int .u32 1359893119, .int .u32 2600822924, .int .u32 528734635, .int .u32 1541459225] 39)
    rw [World.size_alloc] at this
    exact this
  go_loopw [4] (fun rr wr => ∃ (k : Nat) (r : ByteArray), rr = .string r ∧ Hid (r.data.toList = s.data.toList.drop (64 * k)) ∧ 64 * k + r.size = s.size ∧ Row wr (w.heap.size + 1) 39 (blocks k init s.data.toList).list ∧ Below w.heap.size w wr)
    (fun rr _ => strLen rr)
  case atStart => exact ⟨0, s, rfl, rfl, by omega, hrow0, ((Below.refl _ _).alloc (Nat.le_refl _) _).alloc (by simp) _⟩
  case round =>
    clear hrow0
    obtain ⟨k, r, rfl, HR, hks, hrow, hbel⟩ := hrel
    obtain ⟨wo, rfl⟩ : ∃ wo : World, wo = wr := ⟨_, rfl⟩
    by_cases hlt : 64 ≤ r.size
    · go_wp2_with fail
      refine (process_any _ (r.extract 0 64) _ _ (extract_size r 0 64 (by omega)) hrow (hK.below hbel hpos) (Nat.lt_of_lt_of_le hpos hbel.size)).mono ?_
      rintro e w2 ⟨rfl, hrow2, hg2⟩
      have HN := sum_next HR hrow2
      have hb2 := hbel.grown hg2 hbel.size (fun k e => by cases e; omega)
      have hsz := extract_size r 64 r.size (Nat.le_refl _)
      go_wp2_with fail
      refine ⟨⟨k + 1, _, rfl, HN.1, by rw [hsz]; omega, HN.2, hb2⟩, ?_⟩
      show (r.extract 64 r.size).size < r.size
      omega
    · have HROW := Lib.hid hrow
      have HBEL := Lib.hid hbel
      have HKS := Lib.hid hks
      have hbs := hbel.size
      clear hrow hbel hks
      obtain ⟨i5, hi5, hz5, hs5, hb5⟩ := info_parts Tryd.info5
      have HI := Lib.hid (And.intro hi5 (And.intro hz5 (And.intro hs5 hb5)))
      go_wp2_with (first
        | (at_make; refine wpList_make_own _ rfl _ _ 30 rfl wo.heap.size 5 i5 (.int .u8 0) 1 Tryd.underlying30 hi5 hz5 hs5 .i64 .i64 128 128 rfl rfl rfl (by rw [hb5]; decide) (by decide) (Nat.le_refl _) ?_; intro w2 hown2 hgrow2; have hb2 := (Below.refl wo.heap.size wo).grown hgrow2 (Nat.le_refl _) (fun k e => by cases e); have hbz2 := hb2.size)
        | (at_builtin; refine Lib.wpList_append_own_string _ rfl _ _ 30 9 rfl wo.heap.size 5 i5 Tryd.underlying30 Tryd.underlying9 hi5 hz5 hs5 hb5 _ 0 [] rfl hown2 r rfl (by unfold maxLen; omega) (by omega) hbz2 ?_; intro v3 w3 hown3 hgrow3 _; have hb3 := hb2.grown hgrow3 hbz2 (fun k e => (hown2.lt k e).1); have hbz3 := hb3.size; simp only [Nat.zero_add, List.nil_append] at hown3)
        | (at_builtin; refine wpList_append_own _ rfl _ _ 30 rfl wo.heap.size 5 i5 (.int .u8 0) 1 1 Tryd.underlying30 hi5 hz5 hs5 hb5 rfl (by decide) _ _ _ rfl (hown3.alloc _) ⟨w3.heap.size, 0, none⟩ 1 1 [.int .u8 128] rfl rfl (cell_one_new _ _ _) (by simp [Value.oneCell']) (by unfold maxLen; omega) (by omega) (by simp; omega) ?_; intro v4 w4 hown4 hgrow4 _; have hb4 := (hb3.alloc hbz3 _).grown hgrow4 (by simp; omega) (fun k e => (hown3.lt k e).1)))
      have hown5 : w4.ownsRow wo.heap.size 5 1 v4 (r.size + 1) (bc (r.data.toList ++ [128])) := by simpa [bc, Lib.strCells] using hown4
      clear hown2 hown3 hown4 hgrow2 hgrow3 hgrow4 hb2 hb3 hbz2 hbz3
      go_loopw [5] (fun v wr => ∃ (z n : Nat) (l : List UInt8), Hid (l = r.data.toList ++ 128 :: List.replicate z 0) ∧ wr.ownsRow wo.heap.size 5 1 v n (bc l) ∧ n ≤ r.size + 1 + z ∧ r.size + 1 + z ≤ n ∧ z ≤ (119 - r.size % 64) % 64 ∧ Below wo.heap.size wo wr)
        (fun v _ => 200 - sliceLen v)
      case atStart => exact ⟨0, r.size + 1, _, by rfl, hown5, by omega, by omega, by omega, hb4⟩
      case round =>
        clear hown5 hb4
        obtain ⟨z, n, l, HL, hown, hn1, hn2, hz, hb⟩ := hrel
        obtain ⟨wp2, rfl⟩ : ∃ wp2 : World, wp2 = wr := ⟨_, rfl⟩
        obtain ⟨av, cv, rfl⟩ := ownsRow_slice hown
        have hbz := hb.size
        by_cases hlt : z < (119 - r.size % 64) % 64
        · have hq : ((n : Int) % 64 != 56) = true := by simp; omega
          obtain ⟨hi5, hz5, hs5, hb5⟩ := HI.out
          go_wp2_with (at_builtin; refine wpList_append_own _ rfl _ _ 30 rfl wo.heap.size 5 i5 (.int .u8 0) 1 1 Tryd.underlying30 hi5 hz5 hs5 hb5 rfl (by decide) _ _ _ rfl (hown.alloc _) ⟨wp2.heap.size, 0, none⟩ 1 1 [.int .u8 0] rfl rfl (cell_one_new _ _ _) (by simp [Value.oneCell']) (by unfold maxLen; omega) (by omega) (by simp; omega) ?_; intro v' w1 hown' hgrow' _)
          obtain ⟨av', cv', rfl⟩ := ownsRow_slice hown'
          have hb' := (hb.alloc hbz (.cells #[Value.int .u8 0] 5)).grown hgrow' (by simp; omega) (fun k e => (hown.lt k e).1)
          refine ⟨⟨z + 1, n + 1, l ++ [0], ?_, by simpa [bc] using hown', by omega, by omega, by omega, hb'⟩, by simp [sliceLen]; omega⟩
          show _ = _
          rw [HL.out, List.append_assoc, List.cons_append, ← List.replicate_succ']
        · have hq : ((n : Int) % 64 != 56) = false := by simp; omega
          have hz2 : z = (119 - r.size % 64) % 64 := by omega
          have HL1 : Hid (l = r.data.toList ++ 128 :: List.replicate ((119 - r.size % 64) % 64) 0) := by
            show _ = _
            rw [HL.out, hz2]
          have hnm : n ≤ 128 := by omega
          have hn56 : (n + 8) % 64 = 0 := by omega
          have HN56 := Lib.hid hn56
          clear hz2 HL hn56 hq hn1 hn2 hz hlt
          have hq : ((n : Int) % 64 != 56) = false := by have := HN56.out; simp; omega
          go_wp2_with fail
          go_loopw [5, 7] (fun v sh wr => ∃ (j n' : Nat) (l' : List UInt8), j ≤ 8 ∧ sh = .int .i64 (56 - 8 * (j : Int)) ∧ wr.ownsRow wo.heap.size 5 1 v n' (bc l') ∧ Hid (l' = l ++ (size8 (8 * s.size)).take j) ∧ n' ≤ n + j ∧ n + j ≤ n' ∧ Below wo.heap.size wo wr)
            (fun _ sh _ => (intOf sh + 8).toNat)
          case atStart => exact ⟨0, n, l, by omega, rfl, hown, by show l = l ++ []; simp, by omega, by omega, hb⟩
          case round =>
            clear hown hb
            obtain ⟨j, n', l', hj, rfl, hown, HL2, hn1, hn2, hb⟩ := hrel
            obtain ⟨wp3, rfl⟩ : ∃ wp3 : World, wp3 = wr := ⟨_, rfl⟩
            obtain ⟨av2, cv2, rfl⟩ := ownsRow_slice hown
            have hbz := hb.size
            obtain ⟨hi5, hz5, hs5, hb5⟩ := HI.out
            by_cases hlt : j < 8
            · rcases (show j = 0 ∨ j = 1 ∨ j = 2 ∨ j = 3 ∨ j = 4 ∨ j = 5 ∨ j = 6 ∨ j = 7 by omega) with e | e | e | e | e | e | e | e
              all_goals
                subst e
                go_wp2_with (at_builtin; refine wpList_append_own _ rfl _ _ 30 rfl wo.heap.size 5 i5 (.int .u8 0) 1 1 Tryd.underlying30 hi5 hz5 hs5 hb5 rfl (by decide) _ _ _ rfl (hown.alloc _) ⟨wp3.heap.size, 0, none⟩ 1 1 [_] rfl rfl (cell_one_new _ _ _) (by simp [Value.oneCell']) (by unfold maxLen; omega) (by omega) (by simp; omega) ?_; intro v' w1 hown' hgrow' _)
                have hb' := (hb.alloc hbz _).grown hgrow' (by simp; omega) (fun k e => (hown.lt k e).1)
                obtain ⟨l2, HL3, hown3⟩ := size_own hown' HL2 hlt (by simp <;> omega)
                refine ⟨⟨_, n' + 1, l2, (by omega : _ + 1 ≤ 8), by simp, hown3, HL3, by omega, by omega, hb'⟩, by simp [intOf]⟩
            · have hj8 : j = 8 := by omega
              obtain ⟨g2, cap2, e2⟩ := ownsRow_addr hown (by omega)
              obtain ⟨rfl, rfl⟩ : av2 = some ⟨g2, 0, none⟩ ∧ cv2 = cap2 := by simpa using e2
              clear e2
              have hcv := own_string hown
              have hnl : l'.length = n' := by have := hown.1; simpa [bc] using this
              have hrow4 := HROW.out.below hb HROW.out.lt
              have hb4 := HBEL.out.trans (hb.mono hbs)
              have hn64 : n' % 64 = 0 := by have := HN56.out; omega
              have HL4 : Hid (l' = l ++ size8 (8 * s.size)) := by
                show _ = _
                rw [HL2.out, hj8]; rfl
              clear HL2 hown hb hn1 hn2 hlt
              have HJ8 := Lib.hid hj8
              go_wp2_with fail
              clear hj8
              go_loopw [8] (fun rr wr => ∃ (m : Nat) (r2 : ByteArray), rr = .string r2 ∧ Hid (r2.data.toList = l'.drop (64 * m)) ∧ 64 * m + r2.size = n' ∧ Row wr (w.heap.size + 1) 39 (blocks m (blocks k init s.data.toList) l').list ∧ Below w.heap.size w wr)
                (fun rr _ => strLen rr)
              case atStart => exact ⟨0, ⟨l'.toArray⟩, rfl, by rfl, by show 64 * 0 + l'.toArray.size = n'; simp; omega, hrow4, hb4⟩
              case round =>
                clear hrow4 hb4 hcv
                obtain ⟨m, r2, rfl, HR2, hks2, hrow, hbel⟩ := hrel
                obtain ⟨wo4, rfl⟩ : ∃ wo4 : World, wo4 = wr := ⟨_, rfl⟩
                by_cases hlt : 64 ≤ r2.size
                · have hne : r2.toList.isEmpty = false := by
                    rw [Lib.toList_data]
                    cases e : r2.data.toList with
                    | nil => have : r2.size = 0 := by rw [show r2.size = r2.data.toList.length from rfl, e]; rfl
                             omega
                    | cons => rfl
                  go_wp2_with fail
                  refine (process_any _ (r2.extract 0 64) _ _ (extract_size r2 0 64 (by omega)) hrow (hK.below hbel hpos) (Nat.lt_of_lt_of_le hpos hbel.size)).mono ?_
                  rintro e w2 ⟨rfl, hrow2, hg2⟩
                  have HN := sum_next HR2 hrow2
                  have hb2 := hbel.grown hg2 hbel.size (fun k e => by cases e; omega)
                  have hsz := extract_size r2 64 r2.size (Nat.le_refl _)
                  go_wp2_with fail
                  refine ⟨⟨m + 1, _, rfl, HN.1, by rw [hsz]; omega, HN.2, hb2⟩, ?_⟩
                  show (r2.extract 64 r2.size).size < r2.size
                  omega
                · have hr0 : r2 = ⟨#[]⟩ := by
                    have : r2.size = 0 := by omega
                    exact ByteArray.ext (show r2.data = #[] from Array.eq_empty_of_size_eq_zero this)
                  subst hr0
                  obtain ⟨hi5, hz5, hs5, hb5⟩ := HI.out
                  have hmn : 64 * m = n' := hks2
                  have hlt4 := hrow.lt
                  generalize hS : blocks m (blocks k init s.data.toList) l' = S at hrow
                  have HS := Lib.hid hS
                  clear hS
                  obtain ⟨x0, x1, x2, x3, x4, x5, x6, x7⟩ := S
                  go_wp2_with (first
                    | (at_make; refine wpList_make_own _ rfl _ _ 30 rfl wo4.heap.size 5 i5 (.int .u8 0) 1 Tryd.underlying30 hi5 hz5 hs5 .i64 .i64 32 32 rfl rfl rfl (by rw [hb5]; decide) (by decide) (Nat.le_refl _) ?_; intro w2 hown2 hgrow2; have hb2 := (Below.refl wo4.heap.size wo4).grown hgrow2 (Nat.le_refl _) (fun k e => by cases e); have hbz2 := hb2.size; have hrow2 : w2.heap[w.heap.size + 1]? = some (.cells #[.int .u32 (wn x0), .int .u32 (wn x1), .int .u32 (wn x2), .int .u32 (wn x3), .int .u32 (wn x4), .int .u32 (wn x5), .int .u32 (wn x6), .int .u32 (wn x7)] 39 (0, 0)) := hrow.below hb2 hlt4)
                    | (refine wpList_load_row rfl 39 _ rfl (w.heap.size + 1) rfl 39 _ _ (.array 8 36) hrow2 (by kernel_rfl) rfl (by kernel_rfl) ?_))
                  have hmn : 64 * m = n' := hks2
                  clear hrow2
                  go_loopw [9, 62] (fun v sh wr => ∃ (i n5 : Nat) (l5 : List UInt8), i ≤ 8 ∧ sh = .int .i64 (i : Int) ∧ wr.ownsRow wo4.heap.size 5 1 v n5 (bc l5) ∧ Hid (l5 = ((St.mk x0 x1 x2 x3 x4 x5 x6 x7).list.take i).flatMap bytes4) ∧ n5 = 4 * i ∧ Below wo4.heap.size wo4 wr)
                    (fun _ sh _ => (8 - intOf sh).toNat)
                  case atStart => exact ⟨0, 0, [], by omega, rfl, hown2, by rfl, rfl, hb2⟩
                  case round =>
                    have HBEL4 := Lib.hid hbel
                    clear hown2 hbel hb2 hrow hgrow2
                    obtain ⟨i, n5, l5, hi, rfl, hown, HL5, hn5, hb⟩ := hrel
                    obtain ⟨wo5, rfl⟩ : ∃ wo5 : World, wo5 = wr := ⟨_, rfl⟩
                    by_cases hlt : i < 8
                    · have hbz := hb.size
                      have j0 : ∀ w, (Instr.index 39 (.agg #[.int .u32 (wn x0), .int .u32 (wn x1), .int .u32 (wn x2), .int .u32 (wn x3), .int .u32 (wn x4), .int .u32 (wn x5), .int .u32 (wn x6), .int .u32 (wn x7)]) (.int .i64 0)).run Tryd.prog w = .ok (.int .u32 (wn x0)) w := fun _ => by kernel_rfl
                      have j1 : ∀ w, (Instr.index 39 (.agg #[.int .u32 (wn x0), .int .u32 (wn x1), .int .u32 (wn x2), .int .u32 (wn x3), .int .u32 (wn x4), .int .u32 (wn x5), .int .u32 (wn x6), .int .u32 (wn x7)]) (.int .i64 1)).run Tryd.prog w = .ok (.int .u32 (wn x1)) w := fun _ => by kernel_rfl
                      have j2 : ∀ w, (Instr.index 39 (.agg #[.int .u32 (wn x0), .int .u32 (wn x1), .int .u32 (wn x2), .int .u32 (wn x3), .int .u32 (wn x4), .int .u32 (wn x5), .int .u32 (wn x6), .int .u32 (wn x7)]) (.int .i64 2)).run Tryd.prog w = .ok (.int .u32 (wn x2)) w := fun _ => by kernel_rfl
                      have j3 : ∀ w, (Instr.index 39 (.agg #[.int .u32 (wn x0), .int .u32 (wn x1), .int .u32 (wn x2), .int .u32 (wn x3), .int .u32 (wn x4), .int .u32 (wn x5), .int .u32 (wn x6), .int .u32 (wn x7)]) (.int .i64 3)).run Tryd.prog w = .ok (.int .u32 (wn x3)) w := fun _ => by kernel_rfl
                      have j4 : ∀ w, (Instr.index 39 (.agg #[.int .u32 (wn x0), .int .u32 (wn x1), .int .u32 (wn x2), .int .u32 (wn x3), .int .u32 (wn x4), .int .u32 (wn x5), .int .u32 (wn x6), .int .u32 (wn x7)]) (.int .i64 4)).run Tryd.prog w = .ok (.int .u32 (wn x4)) w := fun _ => by kernel_rfl
                      have j5 : ∀ w, (Instr.index 39 (.agg #[.int .u32 (wn x0), .int .u32 (wn x1), .int .u32 (wn x2), .int .u32 (wn x3), .int .u32 (wn x4), .int .u32 (wn x5), .int .u32 (wn x6), .int .u32 (wn x7)]) (.int .i64 5)).run Tryd.prog w = .ok (.int .u32 (wn x5)) w := fun _ => by kernel_rfl
                      have j6 : ∀ w, (Instr.index 39 (.agg #[.int .u32 (wn x0), .int .u32 (wn x1), .int .u32 (wn x2), .int .u32 (wn x3), .int .u32 (wn x4), .int .u32 (wn x5), .int .u32 (wn x6), .int .u32 (wn x7)]) (.int .i64 6)).run Tryd.prog w = .ok (.int .u32 (wn x6)) w := fun _ => by kernel_rfl
                      have j7 : ∀ w, (Instr.index 39 (.agg #[.int .u32 (wn x0), .int .u32 (wn x1), .int .u32 (wn x2), .int .u32 (wn x3), .int .u32 (wn x4), .int .u32 (wn x5), .int .u32 (wn x6), .int .u32 (wn x7)]) (.int .i64 7)).run Tryd.prog w = .ok (.int .u32 (wn x7)) w := fun _ => by kernel_rfl
                      rcases (show i = 0 ∨ i = 1 ∨ i = 2 ∨ i = 3 ∨ i = 4 ∨ i = 5 ∨ i = 6 ∨ i = 7 by omega) with e | e | e | e | e | e | e | e
                      · subst e
                        go_wp2_with (at_builtin; refine wpList_append_own _ rfl _ _ 30 rfl wo4.heap.size 5 i5 (.int .u8 0) 1 1 Tryd.underlying30 hi5 hz5 hs5 hb5 rfl (by decide) _ _ _ rfl (hown.alloc _) ⟨wo5.heap.size, 0, none⟩ 4 4 [_, _, _, _] rfl rfl (cells_new _ [_, _, _, _] _) (by simp [Value.oneCell']) (by unfold maxLen; omega) (by omega) (by simp; omega) ?_; intro v' w1 hown' hgrow' _)
                        have hb' := (hb.alloc hbz (.cells #[.int .u8 (wn x0 / 16777216 % 256), .int .u8 (wn x0 / 65536 % 256), .int .u8 (wn x0 / 256 % 256), .int .u8 (wn x0 % 256)] 5)).grown hgrow' (by simp; omega) (fun k e => (hown.lt k e).1)
                        have hown3 := word_own x0 hown'
                        refine ⟨⟨_, n5 + 4, _, (by omega : 0 + 1 ≤ 8), by simp, hown3, ?_, by omega, hb'⟩, by simp [intOf]⟩
                        show _ = _
                        rw [HL5.out]
                        rfl
                      · subst e
                        go_wp2_with (at_builtin; refine wpList_append_own _ rfl _ _ 30 rfl wo4.heap.size 5 i5 (.int .u8 0) 1 1 Tryd.underlying30 hi5 hz5 hs5 hb5 rfl (by decide) _ _ _ rfl (hown.alloc _) ⟨wo5.heap.size, 0, none⟩ 4 4 [_, _, _, _] rfl rfl (cells_new _ [_, _, _, _] _) (by simp [Value.oneCell']) (by unfold maxLen; omega) (by omega) (by simp; omega) ?_; intro v' w1 hown' hgrow' _)
                        have hb' := (hb.alloc hbz (.cells #[.int .u8 (wn x1 / 16777216 % 256), .int .u8 (wn x1 / 65536 % 256), .int .u8 (wn x1 / 256 % 256), .int .u8 (wn x1 % 256)] 5)).grown hgrow' (by simp; omega) (fun k e => (hown.lt k e).1)
                        have hown3 := word_own x1 hown'
                        refine ⟨⟨_, n5 + 4, _, (by omega : 1 + 1 ≤ 8), by simp, hown3, ?_, by omega, hb'⟩, by simp [intOf]⟩
                        show _ = _
                        rw [HL5.out]
                        rfl
                      · subst e
                        go_wp2_with (at_builtin; refine wpList_append_own _ rfl _ _ 30 rfl wo4.heap.size 5 i5 (.int .u8 0) 1 1 Tryd.underlying30 hi5 hz5 hs5 hb5 rfl (by decide) _ _ _ rfl (hown.alloc _) ⟨wo5.heap.size, 0, none⟩ 4 4 [_, _, _, _] rfl rfl (cells_new _ [_, _, _, _] _) (by simp [Value.oneCell']) (by unfold maxLen; omega) (by omega) (by simp; omega) ?_; intro v' w1 hown' hgrow' _)
                        have hb' := (hb.alloc hbz (.cells #[.int .u8 (wn x2 / 16777216 % 256), .int .u8 (wn x2 / 65536 % 256), .int .u8 (wn x2 / 256 % 256), .int .u8 (wn x2 % 256)] 5)).grown hgrow' (by simp; omega) (fun k e => (hown.lt k e).1)
                        have hown3 := word_own x2 hown'
                        refine ⟨⟨_, n5 + 4, _, (by omega : 2 + 1 ≤ 8), by simp, hown3, ?_, by omega, hb'⟩, by simp [intOf]⟩
                        show _ = _
                        rw [HL5.out]
                        rfl
                      · subst e
                        go_wp2_with (at_builtin; refine wpList_append_own _ rfl _ _ 30 rfl wo4.heap.size 5 i5 (.int .u8 0) 1 1 Tryd.underlying30 hi5 hz5 hs5 hb5 rfl (by decide) _ _ _ rfl (hown.alloc _) ⟨wo5.heap.size, 0, none⟩ 4 4 [_, _, _, _] rfl rfl (cells_new _ [_, _, _, _] _) (by simp [Value.oneCell']) (by unfold maxLen; omega) (by omega) (by simp; omega) ?_; intro v' w1 hown' hgrow' _)
                        have hb' := (hb.alloc hbz (.cells #[.int .u8 (wn x3 / 16777216 % 256), .int .u8 (wn x3 / 65536 % 256), .int .u8 (wn x3 / 256 % 256), .int .u8 (wn x3 % 256)] 5)).grown hgrow' (by simp; omega) (fun k e => (hown.lt k e).1)
                        have hown3 := word_own x3 hown'
                        refine ⟨⟨_, n5 + 4, _, (by omega : 3 + 1 ≤ 8), by simp, hown3, ?_, by omega, hb'⟩, by simp [intOf]⟩
                        show _ = _
                        rw [HL5.out]
                        rfl
                      · subst e
                        go_wp2_with (at_builtin; refine wpList_append_own _ rfl _ _ 30 rfl wo4.heap.size 5 i5 (.int .u8 0) 1 1 Tryd.underlying30 hi5 hz5 hs5 hb5 rfl (by decide) _ _ _ rfl (hown.alloc _) ⟨wo5.heap.size, 0, none⟩ 4 4 [_, _, _, _] rfl rfl (cells_new _ [_, _, _, _] _) (by simp [Value.oneCell']) (by unfold maxLen; omega) (by omega) (by simp; omega) ?_; intro v' w1 hown' hgrow' _)
                        have hb' := (hb.alloc hbz (.cells #[.int .u8 (wn x4 / 16777216 % 256), .int .u8 (wn x4 / 65536 % 256), .int .u8 (wn x4 / 256 % 256), .int .u8 (wn x4 % 256)] 5)).grown hgrow' (by simp; omega) (fun k e => (hown.lt k e).1)
                        have hown3 := word_own x4 hown'
                        refine ⟨⟨_, n5 + 4, _, (by omega : 4 + 1 ≤ 8), by simp, hown3, ?_, by omega, hb'⟩, by simp [intOf]⟩
                        show _ = _
                        rw [HL5.out]
                        rfl
                      · subst e
                        go_wp2_with (at_builtin; refine wpList_append_own _ rfl _ _ 30 rfl wo4.heap.size 5 i5 (.int .u8 0) 1 1 Tryd.underlying30 hi5 hz5 hs5 hb5 rfl (by decide) _ _ _ rfl (hown.alloc _) ⟨wo5.heap.size, 0, none⟩ 4 4 [_, _, _, _] rfl rfl (cells_new _ [_, _, _, _] _) (by simp [Value.oneCell']) (by unfold maxLen; omega) (by omega) (by simp; omega) ?_; intro v' w1 hown' hgrow' _)
                        have hb' := (hb.alloc hbz (.cells #[.int .u8 (wn x5 / 16777216 % 256), .int .u8 (wn x5 / 65536 % 256), .int .u8 (wn x5 / 256 % 256), .int .u8 (wn x5 % 256)] 5)).grown hgrow' (by simp; omega) (fun k e => (hown.lt k e).1)
                        have hown3 := word_own x5 hown'
                        refine ⟨⟨_, n5 + 4, _, (by omega : 5 + 1 ≤ 8), by simp, hown3, ?_, by omega, hb'⟩, by simp [intOf]⟩
                        show _ = _
                        rw [HL5.out]
                        rfl
                      · subst e
                        go_wp2_with (at_builtin; refine wpList_append_own _ rfl _ _ 30 rfl wo4.heap.size 5 i5 (.int .u8 0) 1 1 Tryd.underlying30 hi5 hz5 hs5 hb5 rfl (by decide) _ _ _ rfl (hown.alloc _) ⟨wo5.heap.size, 0, none⟩ 4 4 [_, _, _, _] rfl rfl (cells_new _ [_, _, _, _] _) (by simp [Value.oneCell']) (by unfold maxLen; omega) (by omega) (by simp; omega) ?_; intro v' w1 hown' hgrow' _)
                        have hb' := (hb.alloc hbz (.cells #[.int .u8 (wn x6 / 16777216 % 256), .int .u8 (wn x6 / 65536 % 256), .int .u8 (wn x6 / 256 % 256), .int .u8 (wn x6 % 256)] 5)).grown hgrow' (by simp; omega) (fun k e => (hown.lt k e).1)
                        have hown3 := word_own x6 hown'
                        refine ⟨⟨_, n5 + 4, _, (by omega : 6 + 1 ≤ 8), by simp, hown3, ?_, by omega, hb'⟩, by simp [intOf]⟩
                        show _ = _
                        rw [HL5.out]
                        rfl
                      · subst e
                        go_wp2_with (at_builtin; refine wpList_append_own _ rfl _ _ 30 rfl wo4.heap.size 5 i5 (.int .u8 0) 1 1 Tryd.underlying30 hi5 hz5 hs5 hb5 rfl (by decide) _ _ _ rfl (hown.alloc _) ⟨wo5.heap.size, 0, none⟩ 4 4 [_, _, _, _] rfl rfl (cells_new _ [_, _, _, _] _) (by simp [Value.oneCell']) (by unfold maxLen; omega) (by omega) (by simp; omega) ?_; intro v' w1 hown' hgrow' _)
                        have hb' := (hb.alloc hbz (.cells #[.int .u8 (wn x7 / 16777216 % 256), .int .u8 (wn x7 / 65536 % 256), .int .u8 (wn x7 / 256 % 256), .int .u8 (wn x7 % 256)] 5)).grown hgrow' (by simp; omega) (fun k e => (hown.lt k e).1)
                        have hown3 := word_own x7 hown'
                        refine ⟨⟨_, n5 + 4, _, (by omega : 7 + 1 ≤ 8), by simp, hown3, ?_, by omega, hb'⟩, by simp [intOf]⟩
                        show _ = _
                        rw [HL5.out]
                        rfl
                    · have hi8 : i = 8 := by omega
                      obtain ⟨g5, cap5, rfl⟩ := ownsRow_addr hown (by omega)
                      have hn32 : n5 = 32 := by omega
                      rw [hn32] at hown
                      have hcv := own_string hown
                      go_wp2_with fail
                      refine bodyPost_ret (v := .string ⟨l5.toArray⟩) (by simp [results, Tryd.f18, go_sem]) rfl ⟨?_, HBEL4.out.trans (hb.mono HBEL4.out.size)⟩
                      have hl5 : l5 = (St.mk x0 x1 x2 x3 x4 x5 x6 x7).list.flatMap bytes4 := by
                        rw [HL5.out, hi8]; rfl
                      have hl4 : l' = r.data.toList ++ 128 :: (List.replicate ((119 - r.size % 64) % 64) 0 ++ size8 (8 * s.size)) := by
                        rw [HL4.out, HL1.out]; simp
                      rw [sum_close (s := s.data.toList) (r := r.data.toList) (l := l') (k := k) (m := m) HR.out HKS.out hl4 (by omega) HS.out, hl5]
end Go.Proofs.YtejckicjfmhhoaaDoor

/- What (*state).process does. -/
import Derived.Test.YtejckicjfmhhoaaDoorRot
import Derived.LoopTactic
import Derived.Deep.QuietTactic
import Derived.BigQuiet
import Derived.RegionTactic
import Derived.BigRegion
import Derived.WalkSmall
namespace Go.Proofs.YtejckicjfmhhoaaDoor
open Go.RowKit Dg

theorem shl8 (a : Word) : wn a * 256 % 4294967296 = wn (wl a 8) := shl_w a 8 256 rfl
theorem shr3 (a : Word) : wn a / 8 = wn (wr a 3) := shr_w a 3 8 rfl
theorem shr10 (a : Word) : wn a / 1024 = wn (wr a 10) := shr_w a 10 1024 rfl
attribute [local go_sem] bits_x bits_a bits_o bits_not add_w shl8 shr3 shr10 w8_w

/-- The array in which the first words stand. -/
def half (ws : List Word) : List Word := ws ++ List.replicate (64 - ws.length) 0

theorem words_length (blk : List UInt8) : ∀ n, (words blk n).length = n
  | 0 => rfl
  | n + 1 => by simp [words, words_length blk n]

theorem half_length {ws : List Word} (h : ws.length ≤ 64) : (half ws).length = 64 := by simp [half]; omega

theorem half_get {ws : List Word} (h : ws.length < 64) : (half ws).set ws.length 0 = half ws := by
  unfold half
  rw [List.set_append_right _ _ (Nat.le_refl _), Nat.sub_self, show 64 - ws.length = (63 - ws.length) + 1 from by omega]
  rfl

theorem half_start {blk : List UInt8} {ws : List Word} {k : Nat} (HW : Hid (ws = half (words blk k))) (hk : k < 16) : Hid (ws = ws.set k (be ((blk.drop (4 * k)).take 0))) := by
  have h := HW.out
  subst h
  show _ = _
  have := half_get (ws := words blk k) (by rw [words_length]; omega)
  rw [words_length] at this
  rw [List.take_zero]
  exact this.symm

theorem half_set_len {blk : List UInt8} {ws vs : List Word} {k m : Nat} {b : Word} (HW : Hid (ws = half (words blk k))) (HV : Hid (vs = ws.set m b)) (hk : k ≤ 16) : vs.length = 64 := by
  rw [HV.out, List.length_set, HW.out, half_length (by rw [words_length]; omega)]

theorem ext_length (ws : List Word) : (ext ws).length = ws.length + 1 := by simp [ext]
theorem sched_length (blk : List UInt8) : ∀ n, (sched blk n).length = n + 16
  | 0 => words_length blk 16
  | n + 1 => by
    show (ext (sched blk n)).length = _
    rw [ext_length, sched_length blk n]
theorem sched_len {blk : List UInt8} {ws : List Word} {n : Nat} (HW : Hid (ws = half (sched blk n))) (hn : n ≤ 48) : ws.length = 64 := by
  rw [HW.out, half_length (by rw [sched_length]; omega)]

theorem half_set {ws : List Word} (b : Word) (h : ws.length < 64) : (half ws).set ws.length b = half (ws ++ [b]) := by
  unfold half
  rw [List.set_append_right _ _ (Nat.le_refl _), Nat.sub_self, List.length_append, List.length_singleton, show 64 - ws.length = (64 - (ws.length + 1)) + 1 from by omega, List.replicate_succ, List.set_cons_zero]
  simp
theorem half_getD {ws : List Word} {i : Nat} (h : i < ws.length) : (half ws).getD i 0 = ws.getD i 0 := by
  unfold half
  rw [List.getD_eq_getElem?_getD, List.getElem?_append_left h, ← List.getD_eq_getElem?_getD]
theorem sched_step {blk : List UInt8} {ws : List Word} {n : Nat} {b0 b1 b9 b14 : Word} (HW : Hid (ws = half (sched blk n))) (H0 : Hid (ws.getD n 0 = b0)) (H1 : Hid (ws.getD (n + 1) 0 = b1)) (H9 : Hid (ws.getD (n + 9) 0 = b9))
    (H14 : Hid (ws.getD (n + 14) 0 = b14)) (hn : n < 48) : Hid (ws.set (n + 16) (wp (wp (wp b0 (s0 b1)) b9) (s1 b14)) = half (sched blk (n + 1))) := by
  have hl := sched_length blk n
  show _ = _
  have h0 := H0.out
  have h1 := H1.out
  have h9 := H9.out
  have h14 := H14.out
  rw [HW.out, half_getD (by omega)] at h0 h1 h9 h14
  rw [HW.out, ← hl, half_set _ (by omega)]
  congr 1
  show _ = ext (sched blk n)
  unfold ext
  rw [hl, show n + 16 - 16 = n from by omega, show n + 16 - 15 = n + 1 from by omega, show n + 16 - 7 = n + 9 from by omega, show n + 16 - 2 = n + 14 from by omega, h0, h1, h9, h14]

theorem add3_w (a c k x : Word) : (wn a + (wn c + wn k + wn x)) % 4294967296 = wn (wp a (wp (wp c k) x)) := by
  rw [← add_w, ← add_w, ← add_w]
  omega
theorem not_u32 (a : Word) : bits .xor .u32 (if IntKind.u32.signed = true then -1 else IntKind.u32.max) (wn a) = wn (wc a) := bits_not a

theorem round_a (kk ww za zb zc zd ze zf zg zh : Word) :
    Value.int .u32 (((wn (wp zh (wx (wx (ror ze 6) (ror ze 11)) (ror ze 25))) + (bits .xor .u32 (wn (wa ze zf)) (bits .and .u32 (bits .xor .u32 (if IntKind.u32.signed = true then -1 else IntKind.u32.max) (wn ze)) (wn zg)) + wn kk + wn ww)) % 4294967296 +
      wn (wp (wx (wx (ror za 2) (ror za 13)) (ror za 22)) (wx (wx (wa za zb) (wa za zc)) (wa zb zc)))) % 4294967296) =
    Value.int .u32 (wn (round ⟨za, zb, zc, zd, ze, zf, zg, zh⟩ kk ww).a) := by
  rw [not_u32, bits_a, bits_x, add3_w, add_w]; rfl
theorem round_e (kk ww za zb zc zd ze zf zg zh : Word) :
    Value.int .u32 ((wn zd + (wn (wp zh (wx (wx (ror ze 6) (ror ze 11)) (ror ze 25))) + (bits .xor .u32 (wn (wa ze zf)) (bits .and .u32 (bits .xor .u32 (if IntKind.u32.signed = true then -1 else IntKind.u32.max) (wn ze)) (wn zg)) + wn kk + wn ww)) % 4294967296) % 4294967296) =
    Value.int .u32 (wn (round ⟨za, zb, zc, zd, ze, zf, zg, zh⟩ kk ww).e) := by
  rw [not_u32, bits_a, bits_x, add3_w, add_w]; rfl

theorem round_step {blk : List UInt8} {ws : List Word} {n : Nat} {st z : St} {kk ww : Word} (HZ : Hid (z = rounds st (sched blk 48) n)) (HW : Hid (ws = half (sched blk 48))) (HK : Hid (K.getD n 0 = kk)) (HX : Hid (ws.getD n 0 = ww)) (hn : n < 64) :
    Hid (round z kk ww = rounds st (sched blk 48) (n + 1)) := by
  have hx := HX.out
  rw [HW.out, half_getD (by rw [sched_length]; omega)] at hx
  show _ = round (rounds st (sched blk 48) n) (K.getD n 0) ((sched blk 48).getD n 0)
  rw [HZ.out, HK.out, hx]

def addN (s z : St) (n : Nat) : List Word := (s.add z).list.take n ++ s.list.drop n
theorem addN_len {s z : St} {vs : List Word} {n : Nat} (HV : Hid (vs = addN s z n)) (hn : n ≤ 8) : vs.length = 8 := by
  rw [HV.out]; simp [addN, St.list]; omega
theorem addN_step {s z : St} {vs : List Word} {n : Nat} {b : Word} (HV : Hid (vs = addN s z n)) (HB : Hid (vs.getD n 0 = b)) (hn : n < 8) : Hid (vs.set n (wp b (z.list.getD n 0)) = addN s z (n + 1)) := by
  have hb := HB.out
  show _ = _
  rw [← hb, HV.out]
  rcases (show n = 0 ∨ n = 1 ∨ n = 2 ∨ n = 3 ∨ n = 4 ∨ n = 5 ∨ n = 6 ∨ n = 7 by omega) with e | e | e | e | e | e | e | e <;> subst e <;> rfl

theorem grown_below {w w' : World} (h : Below w.heap.size w w') (g : Nat) : w.grownBy w' (some g) := ⟨h.os, h.tape, h.output, h.size, fun k hk _ => h.block k hk⟩
theorem grown_setCell {w w' : World} {g : Nat} (h : w.grownBy w' (some g)) (i : Nat) (v : Value) : w.grownBy (w'.setCell ⟨g, i, none⟩ v) (some g) :=
  ⟨h.os, h.tape, h.output, by rw [World.size_setCell]; exact h.size, fun k hk hne => by rw [Below.heap_setCell _ _ _ _ (fun e => hne (by rw [e]))]; exact h.block k hk hne⟩
theorem grown_drew {w w' : World} {g : Nat} (h : w.grownBy w' (some g)) : w.grownBy w'.drew (some g) := ⟨h.os, h.tape, h.output, h.size, h.block⟩

theorem process_end {w : World} {g : Nat} {st z : St} {blk : List UInt8} (HZ : Hid (z = rounds st (sched blk 48) 64)) (h : Row w g 39 (addN st z 8)) : Row w g 39 (block st blk).list := by
  have e : addN st z 8 = (block st blk).list := by
    have hz := HZ.out
    unfold block
    rw [← hz]
    rfl
  rw [← e]; exact h

theorem be_snoc (l : List UInt8) (c : UInt8) : be (l ++ [c]) = Dg.wo (wl (be l) 8) (w8 c) := by simp [be]

theorem take_drop_snoc (s : ByteArray) (k m : Nat) (h : k + m < s.size) : (s.data.toList.drop k).take (m + 1) = (s.data.toList.drop k).take m ++ [s[k + m]] := by
  rw [List.take_succ_eq_append_getElem (by simp; exact Nat.lt_sub_of_add_lt (by rw [Nat.add_comm]; exact h))]
  simp only [List.getElem_drop]
  rfl

theorem word_step {s : ByteArray} {ws vs : List Word} {k m : Nat} {b : Word} (HW : Hid (ws = half (words s.data.toList k))) (HV : Hid (vs = ws.set k (be ((s.data.toList.drop (4 * k)).take m)))) (HB : Hid (vs.getD k 0 = b))
    (hk : k ≤ 16) (hi : 4 * k + m < s.size) : Hid (vs.set k (Dg.wo (wl b 8) (w8 s[4 * k + m])) = ws.set k (be ((s.data.toList.drop (4 * k)).take (m + 1)))) := by
  have hl : ws.length = 64 := by rw [HW.out, half_length (by rw [words_length]; omega)]
  show _ = _
  have hv := HV.out
  have hb := HB.out
  subst hv
  rw [List.getD_eq_getElem?_getD, List.getElem?_set_self (by omega)] at hb
  simp only [Option.getD_some] at hb
  rw [List.set_set, take_drop_snoc s (4 * k) m hi, be_snoc, hb]

theorem word_done {blk : List UInt8} {ws vs : List Word} {k : Nat} (HW : Hid (ws = half (words blk k))) (HV : Hid (vs = ws.set k (be ((blk.drop (4 * k)).take 4)))) (hk : k < 16) : Hid (vs = half (words blk (k + 1))) := by
  show _ = _
  rw [HV.out, HW.out]
  unfold half
  have hl := words_length blk k
  have hl2 := words_length blk (k + 1)
  have e : (words blk k ++ List.replicate (64 - (words blk k).length) 0).set k (be ((blk.drop (4 * k)).take 4)) = words blk k ++ (List.replicate (64 - (words blk k).length) 0).set 0 (be ((blk.drop (4 * k)).take 4)) := by
    rw [List.set_append_right _ _ (by omega), hl, Nat.sub_self]
  rw [e, hl, hl2, show 64 - k = (64 - (k + 1)) + 1 from by omega, List.replicate_succ, List.set_cons_zero]
  simp [words]

set_option maxRecDepth 100000 in
set_option maxHeartbeats 2000000 in
theorem process_any (g : Nat) (s : ByteArray) (st : St) (w : World) (hs : s.size = 64) (hg : Row w g 39 st.list) (hK : KT w) (hpos : 0 < w.heap.size) :
    Calls Tryd.prog 31 #[.pointer (some ⟨g, 0, none⟩), .string s] w fun e w' => e = .returned (.tuple #[]) ∧ Row w' g 39 (block st s.data.toList).list ∧ w.grownBy w' (some g) := by
  have hs2 : s.size ≤ 64 := by omega
  have hs3 : 64 ≤ s.size := by omega
  have HS := Lib.hid hs; clear hs
  have HK := Lib.hid hK; clear hK
  go_enter Tryd.func31, Tryd.ntmps31
  go_wp2_with fail
  go_loopw [25] (fun i wr => ∃ (k : Nat) (ws : List Word), k ≤ 16 ∧ i = .int .i64 k ∧ Row wr w.heap.size 51 ws ∧ Hid (ws = half (words s.data.toList k)) ∧ Below w.heap.size w wr)
    (fun i _ => 16 - (intOf i).toNat)
  case atStart => exact ⟨0, half [], by omega, rfl, heap_alloc_new w _, rfl, (Below.refl _ _).alloc (Nat.le_refl _) _⟩
  case round =>
    obtain ⟨k, ws, hk, rfl, hrow, HW, hbel⟩ := hrel
    obtain ⟨wo, rfl⟩ : ∃ wo : World, wo = wr := ⟨_, rfl⟩
    by_cases hlt : k < 16
    · go_wp2_with fail
      go_loopw [28] (fun j wi => ∃ (m : Nat) (vs : List Word), m ≤ 4 ∧ j = .int .i64 m ∧ Row wi w.heap.size 51 vs ∧ Hid (vs = ws.set k (be ((s.data.toList.drop (4 * k)).take m))) ∧ Below w.heap.size w wi)
        (fun j _ => 4 - (intOf j).toNat)
      case atStart => exact ⟨0, ws, by omega, rfl, hrow, half_start HW hlt, hbel⟩
      case round =>
        clear hrow
        obtain ⟨m, vs, hm, rfl, hrow, HV, hbi⟩ := hrel
        obtain ⟨wi, rfl⟩ : ∃ wi : World, wi = wr := ⟨_, rfl⟩
        have hlen : vs.length = 64 := half_set_len HW HV (by omega)
        by_cases hmt : m < 4
        · have hc := hrow.cellD (show k < vs.length from by omega)
          have hf := hrow.frozen k
          obtain ⟨b, hb⟩ : ∃ b, vs.getD k 0 = b := ⟨_, rfl⟩
          rw [hb] at hc
          have HB := Lib.hid hb
          have HL := Lib.hid hlen
          clear hb hlen
          have hi1 : 4 * (k : Int) + (m : Int) < (s.size : Int) := by omega
          have hi2 : 0 ≤ 4 * (k : Int) + (m : Int) := by omega
          have hi3 : (4 * (k : Int) + (m : Int)).toNat = 4 * k + m := by omega
          have hi4 : 4 * k + m < s.size := by omega
          go_wp2_with fail
          go_region
          go_wp2_with fail
          have HN := word_step HW HV HB hk hi4
          refine ⟨⟨m + 1, _, by omega, by go_num, (hrow.set k _).drew, HN, (hbi.setCell (Nat.le_refl _) _).drew⟩, by simp [intOf]; omega⟩
        · have hm4 : m = 4 := by omega
          subst hm4
          have HN := word_done HW HV hlt
          go_wp2_with fail
          refine ⟨⟨k + 1, vs, by omega, by go_num, hrow, HN, hbi⟩, by simp [intOf]; omega⟩
    · have hk16 : k = 16 := by omega
      have HW0 : Hid (ws = half (sched s.data.toList 0)) := by
        show _ = _
        rw [HW.out, hk16]; rfl
      clear hk16 HW
      go_wp2_with fail
      go_loopw [7] (fun i wr => ∃ (n : Nat) (ws : List Word), n ≤ 48 ∧ i = .int .i64 ((n : Int) + 16) ∧ Row wr w.heap.size 51 ws ∧ Hid (ws = half (sched s.data.toList n)) ∧ Below w.heap.size w wr)
        (fun i _ => 64 - (intOf i).toNat)
      case atStart => exact ⟨0, ws, by omega, rfl, hrow, HW0, hbel⟩
      case round =>
        clear hrow HW0 hbel
        obtain ⟨n, ws, hn, rfl, hrow, HW, hbel⟩ := hrel
        obtain ⟨wo, rfl⟩ : ∃ wo : World, wo = wr := ⟨_, rfl⟩
        have hlen : ws.length = 64 := sched_len HW hn
        by_cases hlt : n < 48
        · have c0 := hrow.cellD (show n < ws.length from by omega)
          have c1 := hrow.cellD (show n + 1 < ws.length from by omega)
          have c9 := hrow.cellD (show n + 9 < ws.length from by omega)
          have c14 := hrow.cellD (show n + 14 < ws.length from by omega)
          have c16 := hrow.cellD (show n + 16 < ws.length from by omega)
          have hf := hrow.frozen (n + 16)
          obtain ⟨b0, hb0⟩ : ∃ b, ws.getD n 0 = b := ⟨_, rfl⟩
          obtain ⟨b1, hb1⟩ : ∃ b, ws.getD (n + 1) 0 = b := ⟨_, rfl⟩
          obtain ⟨b9, hb9⟩ : ∃ b, ws.getD (n + 9) 0 = b := ⟨_, rfl⟩
          obtain ⟨b14, hb14⟩ : ∃ b, ws.getD (n + 14) 0 = b := ⟨_, rfl⟩
          rw [hb0] at c0
          rw [hb1] at c1
          rw [hb9] at c9
          rw [hb14] at c14
          have HB0 := Lib.hid hb0
          have HB1 := Lib.hid hb1
          have HB9 := Lib.hid hb9
          have HB14 := Lib.hid hb14
          have HL := Lib.hid hlen
          clear hb0 hb1 hb9 hb14 hlen
          go_wp2_with fail
          go_quiet (fail)
          go_wp2_with (go_at_call 38; first
            | ((with_reducible refine (rot7 _ _).mono ?_); rintro e w' ⟨rfl, rfl⟩)
            | ((with_reducible refine (rot18 _ _).mono ?_); rintro e w' ⟨rfl, rfl⟩)
            | ((with_reducible refine (rot17 _ _).mono ?_); rintro e w' ⟨rfl, rfl⟩)
            | ((with_reducible refine (rot19 _ _).mono ?_); rintro e w' ⟨rfl, rfl⟩))
          have hrow2 : Row (wo.drewN nq) w.heap.size 51 ws := hrow
          have hbel2 := below_drewN hbel nq
          generalize wo.drewN nq = wq at *
          clear c1 c14 hrow hbel
          have d0 : wq.cell? ⟨w.heap.size, n, none⟩ = some (.int .u32 (wn b0)) := by rw [hrow2.cellD (by rw [HL.out]; omega), HB0.out]
          have d9 : wq.cell? ⟨w.heap.size, n + 9, none⟩ = some (.int .u32 (wn b9)) := by rw [hrow2.cellD (by rw [HL.out]; omega), HB9.out]
          have d16 := hrow2.cellD (show n + 16 < ws.length by rw [HL.out]; omega)
          have df := hrow2.frozen (n + 16)
          clear c0 c9 c16 hf
          go_region
          go_wp2_with fail
          have HN := sched_step HW HB0 HB1 HB9 HB14 hlt
          refine ⟨⟨n + 1, _, by omega, by go_num, (hrow2.set (n + 16) _).drew, HN, (hbel2.setCell (Nat.le_refl _) _).drew⟩, by simp [intOf]; omega⟩
        · have hn48 : n = 48 := by omega
          have HW1 : Hid (ws = half (sched s.data.toList 48)) := by
            show _ = _
            rw [HW.out, hn48]
          clear hn48 HW
          have hgl := hg.lt
          have HL := Lib.hid hlen
          clear hlen
          have hst := hg.below hbel hgl
          have e0 : wo.cell? ⟨g, 0, none⟩ = some (.int .u32 (wn st.a)) := hst.cell (i := 0) (by simp [St.list])
          have e1 : wo.cell? ⟨g, 1, none⟩ = some (.int .u32 (wn st.b)) := hst.cell (i := 1) (by simp [St.list])
          have e2 : wo.cell? ⟨g, 2, none⟩ = some (.int .u32 (wn st.c)) := hst.cell (i := 2) (by simp [St.list])
          have e3 : wo.cell? ⟨g, 3, none⟩ = some (.int .u32 (wn st.d)) := hst.cell (i := 3) (by simp [St.list])
          have e4 : wo.cell? ⟨g, 4, none⟩ = some (.int .u32 (wn st.e)) := hst.cell (i := 4) (by simp [St.list])
          have e5 : wo.cell? ⟨g, 5, none⟩ = some (.int .u32 (wn st.f)) := hst.cell (i := 5) (by simp [St.list])
          have e6 : wo.cell? ⟨g, 6, none⟩ = some (.int .u32 (wn st.g)) := hst.cell (i := 6) (by simp [St.list])
          have e7 : wo.cell? ⟨g, 7, none⟩ = some (.int .u32 (wn st.h)) := hst.cell (i := 7) (by simp [St.list])
          have HST := Lib.hid hst
          clear hst
          go_wp2_with fail
          go_quiet (fail)
          go_wp2_with fail
          have hrow2 : Row (wo.drewN nq) w.heap.size 51 ws := hrow
          have hbel2 := below_drewN hbel nq
          have f4 : (wo.drewN nq).cell? ⟨g, 4, none⟩ = some (.int .u32 (wn st.e)) := e4
          have f5 : (wo.drewN nq).cell? ⟨g, 5, none⟩ = some (.int .u32 (wn st.f)) := e5
          have f6 : (wo.drewN nq).cell? ⟨g, 6, none⟩ = some (.int .u32 (wn st.g)) := e6
          have f7 : (wo.drewN nq).cell? ⟨g, 7, none⟩ = some (.int .u32 (wn st.h)) := e7
          generalize wo.drewN nq = wq at *
          clear e0 e1 e2 e3 e4 e5 e6 e7 hrow hbel HST
          go_quiet (fail)
          go_wp2_with fail
          have hrow3 : Row (wq.drewN nq) w.heap.size 51 ws := hrow2
          have hbel3 := below_drewN hbel2 nq
          generalize wq.drewN nq = wq3 at *
          clear f4 f5 f6 f7 hrow2 hbel2
          go_loopw [12, 13, 14, 15, 16, 17, 18, 19, 122] (fun a b c d e f gg h i wr => ∃ (n : Nat) (z : St), n ≤ 64 ∧ i = .int .i64 n ∧ a = .int .u32 (wn z.a) ∧ b = .int .u32 (wn z.b) ∧ c = .int .u32 (wn z.c) ∧ d = .int .u32 (wn z.d) ∧
              e = .int .u32 (wn z.e) ∧ f = .int .u32 (wn z.f) ∧ gg = .int .u32 (wn z.g) ∧ h = .int .u32 (wn z.h) ∧ Hid (z = rounds st (sched s.data.toList 48) n) ∧ Row wr w.heap.size 51 ws ∧ Below w.heap.size w wr)
            (fun _ _ _ _ _ _ _ _ i _ => 64 - (intOf i).toNat)
          case atStart => exact ⟨0, st, by omega, rfl, rfl, rfl, rfl, rfl, rfl, rfl, rfl, rfl, rfl, hrow3, hbel3⟩
          case round =>
            clear hrow3 hbel3
            obtain ⟨n, z, hn, rfl, rfl, rfl, rfl, rfl, rfl, rfl, rfl, rfl, HZ, hrow, hbel⟩ := hrel
            obtain ⟨wo, rfl⟩ : ∃ wo : World, wo = wr := ⟨_, rfl⟩
            obtain ⟨za, zb, zc, zd, ze, zf, zg, zh⟩ := z
            simp only
            by_cases hlt : n < 64
            · have ck := (HK.out.below hbel hpos) n hlt
              have cw := hrow.cellD (show n < ws.length by rw [HL.out]; exact hlt)
              obtain ⟨kk, hkk⟩ : ∃ b, K.getD n 0 = b := ⟨_, rfl⟩
              obtain ⟨ww, hww⟩ : ∃ b, ws.getD n 0 = b := ⟨_, rfl⟩
              rw [hkk] at ck
              rw [hww] at cw
              have HKK := Lib.hid hkk
              have HWW := Lib.hid hww
              clear hkk hww
              go_wp2_with (go_at_call 38; first
                | ((with_reducible refine (rot6 _ _).mono ?_); rintro e w' ⟨rfl, rfl⟩)
                | ((with_reducible refine (rot11 _ _).mono ?_); rintro e w' ⟨rfl, rfl⟩)
                | ((with_reducible refine (rot25 _ _).mono ?_); rintro e w' ⟨rfl, rfl⟩))
              have hi1 : (0 : Int) ≤ n := by omega
              have hi2 : (n : Int) < 64 := by omega
              go_quiet (fail)
              go_wp2_with (go_at_call 38; first
                | ((with_reducible refine (rot2 _ _).mono ?_); rintro e w' ⟨rfl, rfl⟩)
                | ((with_reducible refine (rot13 _ _).mono ?_); rintro e w' ⟨rfl, rfl⟩)
                | ((with_reducible refine (rot22 _ _).mono ?_); rintro e w' ⟨rfl, rfl⟩))
              have HN := round_step HZ HW1 HKK HWW hlt
              refine ⟨⟨n + 1, _, by omega, by go_num, round_a kk ww za zb zc zd ze zf zg zh, rfl, rfl, rfl, round_e kk ww za zb zc zd ze zf zg zh, rfl, rfl, rfl, HN, hrow, below_drewN hbel nq⟩, by simp [intOf]; omega⟩
            · have hn64 : n = 64 := by omega
              have HZ1 : Hid ((⟨za, zb, zc, zd, ze, zf, zg, zh⟩ : St) = rounds st (sched s.data.toList 48) 64) := by
                show _ = _
                rw [HZ.out, hn64]
              clear hn64 HZ hrow
              have hst := hg.below hbel hgl
              have hgb := grown_below hbel g
              clear hbel
              go_wp2_with fail
              go_loopw [196] (fun i wr => ∃ (n : Nat) (vs : List Word), n ≤ 8 ∧ i = .int .i64 n ∧ Row wr g 39 vs ∧ Hid (vs = addN st ⟨za, zb, zc, zd, ze, zf, zg, zh⟩ n) ∧ w.grownBy wr (some g))
                (fun i _ => 8 - (intOf i).toNat)
              case atStart => exact ⟨0, st.list, by omega, rfl, hst, rfl, hgb⟩
              case round =>
                clear hst hgb
                obtain ⟨n, vs, hn, rfl, hrow, HV, hgb⟩ := hrel
                obtain ⟨wo, rfl⟩ : ∃ wo : World, wo = wr := ⟨_, rfl⟩
                have hvl : vs.length = 8 := addN_len HV hn
                by_cases hlt : n < 8
                · have hc := hrow.cellD (show n < vs.length by omega)
                  have hf := hrow.frozen n
                  obtain ⟨b, hb⟩ : ∃ b, vs.getD n 0 = b := ⟨_, rfl⟩
                  rw [hb] at hc
                  have HB := Lib.hid hb
                  clear hb
                  have HN := addN_step HV HB hlt
                  have i0 : ∀ w, (Instr.index 38 (.agg #[.int .u32 (wn za), .int .u32 (wn zb), .int .u32 (wn zc), .int .u32 (wn zd), .int .u32 (wn ze), .int .u32 (wn zf), .int .u32 (wn zg), .int .u32 (wn zh)]) (.int .i64 0)).run Tryd.prog w = .ok (.int .u32 (wn za)) w := fun _ => by kernel_rfl
                  have i1 : ∀ w, (Instr.index 38 (.agg #[.int .u32 (wn za), .int .u32 (wn zb), .int .u32 (wn zc), .int .u32 (wn zd), .int .u32 (wn ze), .int .u32 (wn zf), .int .u32 (wn zg), .int .u32 (wn zh)]) (.int .i64 1)).run Tryd.prog w = .ok (.int .u32 (wn zb)) w := fun _ => by kernel_rfl
                  have i2 : ∀ w, (Instr.index 38 (.agg #[.int .u32 (wn za), .int .u32 (wn zb), .int .u32 (wn zc), .int .u32 (wn zd), .int .u32 (wn ze), .int .u32 (wn zf), .int .u32 (wn zg), .int .u32 (wn zh)]) (.int .i64 2)).run Tryd.prog w = .ok (.int .u32 (wn zc)) w := fun _ => by kernel_rfl
                  have i3 : ∀ w, (Instr.index 38 (.agg #[.int .u32 (wn za), .int .u32 (wn zb), .int .u32 (wn zc), .int .u32 (wn zd), .int .u32 (wn ze), .int .u32 (wn zf), .int .u32 (wn zg), .int .u32 (wn zh)]) (.int .i64 3)).run Tryd.prog w = .ok (.int .u32 (wn zd)) w := fun _ => by kernel_rfl
                  have i4 : ∀ w, (Instr.index 38 (.agg #[.int .u32 (wn za), .int .u32 (wn zb), .int .u32 (wn zc), .int .u32 (wn zd), .int .u32 (wn ze), .int .u32 (wn zf), .int .u32 (wn zg), .int .u32 (wn zh)]) (.int .i64 4)).run Tryd.prog w = .ok (.int .u32 (wn ze)) w := fun _ => by kernel_rfl
                  have i5 : ∀ w, (Instr.index 38 (.agg #[.int .u32 (wn za), .int .u32 (wn zb), .int .u32 (wn zc), .int .u32 (wn zd), .int .u32 (wn ze), .int .u32 (wn zf), .int .u32 (wn zg), .int .u32 (wn zh)]) (.int .i64 5)).run Tryd.prog w = .ok (.int .u32 (wn zf)) w := fun _ => by kernel_rfl
                  have i6 : ∀ w, (Instr.index 38 (.agg #[.int .u32 (wn za), .int .u32 (wn zb), .int .u32 (wn zc), .int .u32 (wn zd), .int .u32 (wn ze), .int .u32 (wn zf), .int .u32 (wn zg), .int .u32 (wn zh)]) (.int .i64 6)).run Tryd.prog w = .ok (.int .u32 (wn zg)) w := fun _ => by kernel_rfl
                  have i7 : ∀ w, (Instr.index 38 (.agg #[.int .u32 (wn za), .int .u32 (wn zb), .int .u32 (wn zc), .int .u32 (wn zd), .int .u32 (wn ze), .int .u32 (wn zf), .int .u32 (wn zg), .int .u32 (wn zh)]) (.int .i64 7)).run Tryd.prog w = .ok (.int .u32 (wn zh)) w := fun _ => by kernel_rfl
                  rcases (show n = 0 ∨ n = 1 ∨ n = 2 ∨ n = 3 ∨ n = 4 ∨ n = 5 ∨ n = 6 ∨ n = 7 by omega) with e | e | e | e | e | e | e | e
                  all_goals
                    subst e
                    go_wp2_with fail
                    clear i0 i1 i2 i3 i4 i5 i6 i7
                    go_region
                    go_wp2_with fail
                    refine ⟨⟨_, _, by omega, by go_num, (hrow.set _ _).drew, HN, grown_drew (grown_setCell hgb _ _)⟩, by simp [intOf]⟩
                · have hn8 : n = 8 := by omega
                  have hfin : Row wo g 39 (block st s.data.toList).list := by
                    have h1 := HV.out
                    rw [hn8] at h1
                    rw [h1] at hrow
                    exact process_end HZ1 hrow
                  clear hn8 HV hrow
                  go_wp2_with fail
                  go_end0
                  exact ⟨rfl, hfin, hgb⟩
end Go.Proofs.YtejckicjfmhhoaaDoor

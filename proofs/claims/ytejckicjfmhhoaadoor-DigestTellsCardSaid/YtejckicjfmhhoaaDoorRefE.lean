/- What the reference makes of one block. -/
import Derived.Test.YtejckicjfmhhoaaDoorRefC
import Derived.StillTailTactics
import Derived.Deep.RegionHeld3
import Derived.Deep.RegionLaw
namespace Go.Proofs.YtejckicjfmhhoaaDoor
open Go.RowKit Dg

/-- Words as the cells of a slice of ints. -/
def lv (ws : List Word) : List Value := ws.map fun b => .int .i64 (wn b)
/-- Block g begins with these words, as ints. -/
def Lw (w : World) (g : Nat) (ws : List Word) : Prop := g < w.heap.size ∧ ∀ i, i < ws.length → w.cell? ⟨g, i, none⟩ = some (.int .i64 (wn (ws.getD i 0)))
theorem Lw.cell {w : World} {g : Nat} {ws : List Word} (h : Lw w g ws) {i : Nat} (hi : i < ws.length) : w.cell? ⟨g, i, none⟩ = some (.int .i64 (wn (ws.getD i 0))) := h.2 i hi
theorem Lw.below {w w' : World} {g B : Nat} {ws : List Word} (h : Lw w g ws) (hb : Below B w w') (hB : g < B) : Lw w' g ws :=
  ⟨Nat.lt_of_lt_of_le h.1 hb.size, fun i hi => (hb.cell (p := ⟨g, i, none⟩) hB).trans (h.2 i hi)⟩
theorem Lw.next {w w' : World} {g : Nat} {ws : List Word} (h : Lw w g ws) (hb : Below w.heap.size w w') : Lw w' g ws := h.below hb h.1
theorem Lw.drew {w : World} {g : Nat} {ws : List Word} (h : Lw w g ws) : Lw w.drew g ws := h
theorem Lw.drewN {w : World} {g : Nat} {ws : List Word} (h : Lw w g ws) (n : Nat) : Lw (w.drewN n) g ws := h
theorem Lw.made (w : World) (ws : List Word) (t : TypeId) : Lw (w.alloc (.cells (lv ws).toArray t)) w.heap.size ws := by
  refine ⟨by simp, fun i hi => ?_⟩
  have := heap_alloc_new w (.cells (lv ws).toArray t)
  unfold World.cell?
  rw [this]
  simp [lv, hi]
theorem Lw.owned {w : World} {base g n c : Nat} {ws : List Word} (h : w.ownsRow base 3 1 (.slice (some ⟨g, 0, none⟩) n c) n (lv ws)) : Lw w g ws := by
  have hl : ws.length = n := by have := h.1; simpa [lv] using this
  refine ⟨(h.lt g (by rfl)).2, fun i hi => ?_⟩
  rw [h.cellAt i (by omega)]
  simp [lv, hi]

theorem k_any (w : World) : Calls Tryd.prog 41 #[] w fun e w' => e = .returned (.slice (some ⟨w.heap.size, 0, none⟩) 64 64) ∧ w' = w.alloc (.cells (lv K).toArray 3) := by
  go_enter Tryd.func41, Tryd.ntmps41
  go_wp2
  exact bodyPost_ret (results_tmp rfl _ _ _) rfl ⟨rfl, rfl⟩

theorem Tryd.info3 : (Tryd.prog.info? 3).map (fun i => (i.zero, i.size, i.bytes)) = some (some (.int .i64 0), 1, 8) := by kernel_rfl

/-- Block g begins with these bytes. -/
def Lb (w : World) (g : Nat) (bs : List UInt8) : Prop := g < w.heap.size ∧ ∀ i, i < bs.length → w.cell? ⟨g, i, none⟩ = some (.int .u8 ((bs.getD i 0).toNat : Int))
theorem Lb.below {w w' : World} {g B : Nat} {bs : List UInt8} (h : Lb w g bs) (hb : Below B w w') (hB : g < B) : Lb w' g bs :=
  ⟨Nat.lt_of_lt_of_le h.1 hb.size, fun i hi => (hb.cell (p := ⟨g, i, none⟩) hB).trans (h.2 i hi)⟩

theorem w8_shl (b : UInt8) (k : Nat) (m : Int) (hm : m = 2 ^ k) (hk : k ≤ 24) : IntKind.i64.wrap (IntKind.i64.wrap (b.toNat : Int) * m) = wn (wl (w8 b) k) := by
  subst hm
  have h := b.toNat_lt
  have hp : 2 ^ k ≤ 2 ^ 24 := Nat.pow_le_pow_right (by omega) hk
  have hp' : (2 : Int) ^ k = ((2 ^ k : Nat) : Int) := by simp
  have hm : b.toNat * 2 ^ k ≤ 255 * 2 ^ 24 := Nat.mul_le_mul (by omega) hp
  have hm' : (b.toNat : Int) * 2 ^ k = ((b.toNat * 2 ^ k : Nat) : Int) := by simp
  rw [wrap_i64 (x := (b.toNat : Int)) (by omega) (by omega), ← shl_w (w8 b) k _ rfl, wn_w8, hm', wrap_i64 (by omega) (by omega)]
  omega
theorem wrap_w8 (b : UInt8) : IntKind.i64.wrap (b.toNat : Int) = wn (w8 b) := by
  have h := b.toNat_lt
  rw [wn_w8]; exact wrap_i64 (by omega) (by omega)
theorem be_or (b0 b1 b2 b3 : UInt8) : bits .or .i64 (bits .or .i64 (bits .or .i64 (IntKind.i64.wrap (IntKind.i64.wrap (b0.toNat : Int) * 16777216)) (IntKind.i64.wrap (IntKind.i64.wrap (b1.toNat : Int) * 65536))) (IntKind.i64.wrap (IntKind.i64.wrap (b2.toNat : Int) * 256))) (IntKind.i64.wrap (b3.toNat : Int)) = wn (be [b0, b1, b2, b3]) := by
  rw [w8_shl b0 24 16777216 rfl (by omega), w8_shl b1 16 65536 rfl (by omega), w8_shl b2 8 256 rfl (by omega), wrap_w8, l_o, l_o, l_o]
  congr 1
  simp only [be, List.foldl_cons, List.foldl_nil, wo, wl, BitVec.shiftLeft_or_distrib, ← BitVec.shiftLeft_add]
  simp

theorem words_next (blk : List UInt8) (i : Nat) (b0 b1 b2 b3 : UInt8) (h : (blk.drop (4 * i)).take 4 = [b0, b1, b2, b3]) : words blk (i + 1) = words blk i ++ [be [b0, b1, b2, b3]] := by
  rw [words, h]
theorem four (bs : List UInt8) (a i : Nat) (h : a + 64 ≤ bs.length) (hi : i < 16) : ((((bs.drop a).take 64).drop (4 * i)).take 4) = [bs.getD (a + 4 * i) 0, bs.getD (a + 4 * i + 1) 0, bs.getD (a + 4 * i + 2) 0, bs.getD (a + 4 * i + 3) 0] := by
  have e : ∀ k, k < 4 → ((((bs.drop a).take 64).drop (4 * i)).take 4)[k]? = some (bs.getD (a + 4 * i + k) 0) := by
    intro k hk
    rw [List.getElem?_take, if_pos hk, List.getElem?_drop, List.getElem?_take, if_pos (by omega), List.getElem?_drop, show a + (4 * i + k) = a + 4 * i + k by omega, List.getD_eq_getElem?_getD, List.getElem?_eq_getElem (by omega)]
    rfl
  have hl : ((((bs.drop a).take 64).drop (4 * i)).take 4).length = 4 := by simp; omega
  match h0 : ((((bs.drop a).take 64).drop (4 * i)).take 4), hl, e with
  | [x0, x1, x2, x3], _, e =>
    have e0 := e 0 (by omega)
    have e1 := e 1 (by omega)
    have e2 := e 2 (by omega)
    have e3 := e 3 (by omega)
    simp only [List.getElem?_cons_zero, List.getElem?_cons_succ, Option.some.injEq, Nat.add_zero] at e0 e1 e2 e3
    rw [e0, e1, e2, e3]
theorem src_cells {w : World} {g : Nat} {ws : List Word} (h : Lw w g ws) : ∀ j u, (lv ws)[j]? = some u → w.cell? ((⟨g, 0, none⟩ : Addr).add j) = some u := by
  intro j u hj
  have ea : (⟨g, 0, none⟩ : Addr).add j = ⟨g, j, none⟩ := by
    unfold Addr.add
    split
    · rename_i e; subst e; rfl
    · simp
  have hl : j < ws.length := by
    have := (List.getElem?_eq_some_iff.1 hj).1
    simpa [lv] using this
  rw [ea, h.2 j hl, ← hj]
  simp [lv, hl]
theorem lv_one (ws : List Word) : ∀ u ∈ lv ws, u.oneCell' = true := by
  intro u hu
  obtain ⟨b, _, rfl⟩ := List.mem_map.1 hu
  rfl
theorem lv_snoc {w : World} {base n : Nat} {v : Value} {ws : List Word} {z : Int} {b : Word} (hz : z = wn b) (h : w.ownsRow base 3 1 v n (lv ws ++ [.int .i64 z])) : w.ownsRow base 3 1 v n (lv (ws ++ [b])) := by
  subst hz
  simpa [lv] using h

theorem wrapN {x : Int} (h0 : 0 ≤ x) (h1 : x < 4611686018427387904) : IntKind.i64.wrap x = x ∧ wrap64 x = x := ⟨wrap_i64 (by omega) h1, by unfold wrap64; omega⟩
theorem s2 (a b : Word) : IntKind.i64.wrap (wn a + wn b) = wn a + wn b := by
  have := wn_nonneg a; have := wn_lt a; have := wn_nonneg b; have := wn_lt b
  exact (wrapN (by omega) (by omega)).1
theorem s3 (a b c : Word) : IntKind.i64.wrap (wn a + wn b + wn c) = wn a + wn b + wn c := by
  have := wn_nonneg a; have := wn_lt a; have := wn_nonneg b; have := wn_lt b; have := wn_nonneg c; have := wn_lt c
  exact (wrapN (by omega) (by omega)).1
theorem s4 (a b c d : Word) : IntKind.i64.wrap (wn a + wn b + wn c + wn d) = wn a + wn b + wn c + wn d := by
  have := wn_nonneg a; have := wn_lt a; have := wn_nonneg b; have := wn_lt b; have := wn_nonneg c; have := wn_lt c; have := wn_nonneg d; have := wn_lt d
  exact (wrapN (by omega) (by omega)).1
theorem s5 (a b c d e : Word) : IntKind.i64.wrap (wn a + wn b + wn c + wn d + wn e) = wn a + wn b + wn c + wn d + wn e := by
  have := wn_nonneg a; have := wn_lt a; have := wn_nonneg b; have := wn_lt b; have := wn_nonneg c; have := wn_lt c; have := wn_nonneg d; have := wn_lt d; have := wn_nonneg e; have := wn_lt e
  exact (wrapN (by omega) (by omega)).1
theorem not_w (a : Word) : 4294967295 - wn a = wn (wc a) := by
  unfold wn wc
  rw [BitVec.toNat_not]
  have := a.isLt
  omega

theorem turn2 (b : Word) (w : World) : Calls Tryd.prog 39 #[.int .i64 (wn b), .int .i64 2] w fun e w' => e = .returned (.int .i64 (wn (ror b 2))) ∧ ∃ m, w' = w.drewN m := turn_any b 2 2 w rfl (by omega) (by omega)
theorem turn6 (b : Word) (w : World) : Calls Tryd.prog 39 #[.int .i64 (wn b), .int .i64 6] w fun e w' => e = .returned (.int .i64 (wn (ror b 6))) ∧ ∃ m, w' = w.drewN m := turn_any b 6 6 w rfl (by omega) (by omega)
theorem turn11 (b : Word) (w : World) : Calls Tryd.prog 39 #[.int .i64 (wn b), .int .i64 11] w fun e w' => e = .returned (.int .i64 (wn (ror b 11))) ∧ ∃ m, w' = w.drewN m := turn_any b 11 11 w rfl (by omega) (by omega)
theorem turn13 (b : Word) (w : World) : Calls Tryd.prog 39 #[.int .i64 (wn b), .int .i64 13] w fun e w' => e = .returned (.int .i64 (wn (ror b 13))) ∧ ∃ m, w' = w.drewN m := turn_any b 13 13 w rfl (by omega) (by omega)
theorem turn22 (b : Word) (w : World) : Calls Tryd.prog 39 #[.int .i64 (wn b), .int .i64 22] w fun e w' => e = .returned (.int .i64 (wn (ror b 22))) ∧ ∃ m, w' = w.drewN m := turn_any b 22 22 w rfl (by omega) (by omega)
theorem turn25 (b : Word) (w : World) : Calls Tryd.prog 39 #[.int .i64 (wn b), .int .i64 25] w fun e w' => e = .returned (.int .i64 (wn (ror b 25))) ∧ ∃ m, w' = w.drewN m := turn_any b 25 25 w rfl (by omega) (by omega)
theorem turnq2 (b : Word) (w : World) (n : Nat) : Calls Tryd.prog 39 #[.int .i64 (wn b), .int .i64 2] (w.drewN n) fun e w' => e = .returned (.int .i64 (wn (ror b 2))) ∧ ∃ m, w' = w.drewN m := Calls.quiet_of (turn2 b _)
theorem turnq6 (b : Word) (w : World) (n : Nat) : Calls Tryd.prog 39 #[.int .i64 (wn b), .int .i64 6] (w.drewN n) fun e w' => e = .returned (.int .i64 (wn (ror b 6))) ∧ ∃ m, w' = w.drewN m := Calls.quiet_of (turn6 b _)
theorem turnq11 (b : Word) (w : World) (n : Nat) : Calls Tryd.prog 39 #[.int .i64 (wn b), .int .i64 11] (w.drewN n) fun e w' => e = .returned (.int .i64 (wn (ror b 11))) ∧ ∃ m, w' = w.drewN m := Calls.quiet_of (turn11 b _)
theorem turnq13 (b : Word) (w : World) (n : Nat) : Calls Tryd.prog 39 #[.int .i64 (wn b), .int .i64 13] (w.drewN n) fun e w' => e = .returned (.int .i64 (wn (ror b 13))) ∧ ∃ m, w' = w.drewN m := Calls.quiet_of (turn13 b _)
theorem turnq22 (b : Word) (w : World) (n : Nat) : Calls Tryd.prog 39 #[.int .i64 (wn b), .int .i64 22] (w.drewN n) fun e w' => e = .returned (.int .i64 (wn (ror b 22))) ∧ ∃ m, w' = w.drewN m := Calls.quiet_of (turn22 b _)
theorem turnq25 (b : Word) (w : World) (n : Nat) : Calls Tryd.prog 39 #[.int .i64 (wn b), .int .i64 25] (w.drewN n) fun e w' => e = .returned (.int .i64 (wn (ror b 25))) ∧ ∃ m, w' = w.drewN m := Calls.quiet_of (turn25 b _)
theorem word2 (a b : Word) (w : World) : Calls Tryd.prog 40 #[.int .i64 (wn a + wn b)] w fun e w' => e = .returned (.int .i64 (wn (wp a b))) ∧ w' = w := by
  have := wn_nonneg a; have := wn_lt a; have := wn_nonneg b; have := wn_lt b
  exact word_any _ _ _ (by omega) (by omega) (add_w a b)
theorem word4 (a b c d : Word) (w : World) : Calls Tryd.prog 40 #[.int .i64 (wn a + wn b + wn c + wn d)] w fun e w' => e = .returned (.int .i64 (wn (wp (wp (wp a b) c) d))) ∧ w' = w := by
  have := wn_nonneg a; have := wn_lt a; have := wn_nonneg b; have := wn_lt b; have := wn_nonneg c; have := wn_lt c; have := wn_nonneg d; have := wn_lt d
  exact word_any _ _ _ (by omega) (by omega) (by rw [← add_w, ← add_w, ← add_w]; omega)
theorem word5 (a b c d e : Word) (w : World) : Calls Tryd.prog 40 #[.int .i64 (wn a + wn b + wn c + wn d + wn e)] w fun r w' => r = .returned (.int .i64 (wn (wp (wp a b) (wp (wp c d) e)))) ∧ w' = w := by
  have := wn_nonneg a; have := wn_lt a; have := wn_nonneg b; have := wn_lt b; have := wn_nonneg c; have := wn_lt c; have := wn_nonneg d; have := wn_lt d; have := wn_nonneg e; have := wn_lt e
  exact word_any _ _ _ (by omega) (by omega) (by rw [← add_w, ← add_w, ← add_w, ← add_w]; omega)

section
attribute [local go_sem] s2 s3 s4 s5 not_w shr3 shr10 l_x l_a l_o wrap64_wn
set_option maxRecDepth 100000 in
set_option maxHeartbeats 4000000 in
theorem rblock_any (gs cs gb nb cb at_ : Nat) (st : St) (bs : List UInt8) (w : World) (hst : Lw w gs st.list) (hbs : Lb w gb bs) (hlen : bs.length = nb) (hat : at_ + 64 ≤ nb) (hnb : nb ≤ 2000000) :
    Calls Tryd.prog 33 #[.slice (some ⟨gs, 0, none⟩) 8 cs, .slice (some ⟨gb, 0, none⟩) nb cb, .int .i64 (at_ : Int)] w fun e w' => ∃ g c, e = .returned (.slice (some ⟨g, 0, none⟩) 8 c) ∧ Lw w' g (block st ((bs.drop at_).take 64)).list ∧ Below w.heap.size w w' := by
  obtain ⟨i3, hi3, hz3, hs3, hb3⟩ := info_parts Tryd.info3
  have HI := Lib.hid (And.intro hi3 (And.intro hz3 (And.intro hs3 hb3)))
  clear hi3 hz3 hs3 hb3
  go_enter Tryd.func33, Tryd.ntmps33
  go_wp2_with fail
  have HST := Lib.hid hst
  have HBS := Lib.hid hbs
  have HLEN := Lib.hid hlen
  clear hst hbs hlen
  obtain ⟨blk, HBK⟩ : ∃ blk, Hid (blk = (bs.drop at_).take 64) := ⟨_, rfl⟩
  go_loopw [7, 8] (fun v sh wr => ∃ (i : Nat), i ≤ 16 ∧ sh = .int .i64 (i : Int) ∧ wr.ownsRow w.heap.size 3 1 v i (lv (words blk i)) ∧ Below w.heap.size w wr)
    (fun _ sh _ => (16 - intOf sh).toNat)
  case atStart => exact ⟨0, by omega, rfl, World.ownsRow_nil _ _ _ _, Below.refl _ _⟩
  case round =>
    obtain ⟨i, hi, rfl, hown, hb⟩ := hrel
    obtain ⟨wq, rfl⟩ : ∃ wq : World, wq = wr := ⟨_, rfl⟩
    have hbz := hb.size
    by_cases hlt : i < 16
    · obtain ⟨p, HP, hp, hpn⟩ : ∃ p : Nat, Hid (at_ + 4 * i = p) ∧ (at_ : Int) + 4 * (i : Int) = (p : Int) ∧ p + 3 < nb := ⟨at_ + 4 * i, rfl, by omega, by omega⟩
      have hgb := HBS.out.1
      have hbW := HBS.out.below hb hgb
      have c0 : wq.cell? ⟨gb, p, none⟩ = _ := hbW.2 p (by have := HLEN.out; omega)
      have c1 : wq.cell? ⟨gb, p + 1, none⟩ = _ := hbW.2 (p + 1) (by have := HLEN.out; omega)
      have c2 : wq.cell? ⟨gb, p + 2, none⟩ = _ := hbW.2 (p + 2) (by have := HLEN.out; omega)
      have c3 : wq.cell? ⟨gb, p + 3, none⟩ = _ := hbW.2 (p + 3) (by have := HLEN.out; omega)
      have w1 : IntKind.i64.wrap ((p : Int) + 1) = ((p + 1 : Nat) : Int) := wrap_i64 (by omega) (by omega)
      have w2 : IntKind.i64.wrap ((p : Int) + 2) = ((p + 2 : Nat) : Int) := wrap_i64 (by omega) (by omega)
      have w3 : IntKind.i64.wrap ((p : Int) + 3) = ((p + 3 : Nat) : Int) := wrap_i64 (by omega) (by omega)
      have HW : Hid (words blk (i + 1) = words blk i ++ [be [bs.getD p 0, bs.getD (p + 1) 0, bs.getD (p + 2) 0, bs.getD (p + 3) 0]]) := by
        have h4 := four bs at_ i (by have := HLEN.out; omega) hlt
        rw [HP.out, ← HBK.out] at h4
        exact words_next blk i _ _ _ _ h4
      have t2 : ((p : Int) + 2).toNat = p + 2 := by omega
      have t3 : ((p : Int) + 3).toNat = p + 3 := by omega
      have p0 : (0 : Int) ≤ (p : Int) := by omega
      have p1 : (0 : Int) ≤ (p : Int) + 1 := by omega
      have p2 : (0 : Int) ≤ (p : Int) + 2 := by omega
      have p3 : (0 : Int) ≤ (p : Int) + 3 := by omega
      have q0 : (p : Int) < (nb : Int) := by omega
      have q1 : (p : Int) + 1 < (nb : Int) := by omega
      have q2 : (p : Int) + 2 < (nb : Int) := by omega
      have q3 : (p : Int) + 3 < (nb : Int) := by omega
      generalize bs.getD p 0 = b0 at *
      generalize bs.getD (p + 1) 0 = b1 at *
      generalize bs.getD (p + 2) 0 = b2 at *
      generalize bs.getD (p + 3) 0 = b3 at *
      clear hbW
      go_wp2_with fail
      have hS1 : ∀ W, Below w.heap.size wq W → (W.cell? ⟨gb, p, none⟩ = some (.int .u8 (b0.toNat : Int)) ∧ W.cell? ⟨gb, p + 1, none⟩ = some (.int .u8 (b1.toNat : Int)) ∧ W.cell? ⟨gb, p + 2, none⟩ = some (.int .u8 (b2.toNat : Int)) ∧ W.cell? ⟨gb, p + 3, none⟩ = some (.int .u8 (b3.toNat : Int))) :=
        fun W hW => ⟨(hW.cell (p := ⟨gb, p, none⟩) hgb).trans c0, (hW.cell (p := ⟨gb, p + 1, none⟩) hgb).trans c1, (hW.cell (p := ⟨gb, p + 2, none⟩) hgb).trans c2, (hW.cell (p := ⟨gb, p + 3, none⟩) hgb).trans c3⟩
      have hS0 := hS1 wq.drew (Below.refl _ _).drew
      have hS2 := fun o => hS1 (wq.alloc o).drew ((Below.refl _ _).alloc hbz o).drew
      have HS1 := Lib.hid hS1
      clear hS1 c0 c1 c2 c3
      have hown1 : wq.drew.ownsRow w.heap.size 3 1 u7 i (lv (words blk i)) := hown
      obtain ⟨hi3, hz3, hs3, hb3⟩ := HI.out
      go_region_held3 (fun W => W.cell? ⟨gb, p, none⟩ = some (.int .u8 (b0.toNat : Int)) ∧ W.cell? ⟨gb, p + 1, none⟩ = some (.int .u8 (b1.toNat : Int)) ∧ W.cell? ⟨gb, p + 2, none⟩ = some (.int .u8 (b2.toNat : Int)) ∧ W.cell? ⟨gb, p + 3, none⟩ = some (.int .u8 (b3.toNat : Int)))
        (with_reducible (first | exact hS0 | exact hS2 _ | exact hod))
        (first | (refine step_append_own rfl (.tmp 31) (.tmp 61) 44 rfl w.heap.size 3 i3 (.int .i64 0) 1 8 Tryd.underlying44 hi3 hz3 hs3 hb3 rfl (by decide) _ i (lv (words blk i)) rfl (hown1.alloc _) ⟨wq.heap.size, 0, none⟩ 1 1 [_] rfl rfl (cells_new wq.drew [_] _) (by simp [Value.oneCell']) (by unfold maxLen; omega) (by omega) (by simp; omega) ?_; intro v1 w1 hown' hgrow'; have hbn := ((Below.refl w.heap.size wq).drew.alloc hbz _).grown hgrow' (by simp; omega) (fun k e => (hown.lt k e).1); have hod := HS1.out w1 hbn))
      have hown2 := lv_snoc (be_or b0 b1 b2 b3) hown'
      rw [← HW.out] at hown2
      have hbn2 := hb.trans hbn
      clear hown hown1 hown' hgrow' hb hod hS0 hS2 hbn
      go_wp2_with fail
      exact ⟨⟨i + 1, by omega, by go_num, hown2, hbn2⟩, by simp [intOf]; omega⟩
    · have hi16 : i = 16 := by omega
      subst hi16
      obtain ⟨w0, HW0⟩ : ∃ w0, Hid (w0 = words blk 16) := ⟨_, rfl⟩
      rw [← HW0.out] at hown
      have HL0 : Hid (w0.length = 16) := by show _ = _; rw [HW0.out, words_length]
      rw [show ((16 : Nat) : Int) = (16 : Int) from rfl]
      go_wp2_with fail
      go_loopw [7, 10] (fun v sh wz => ∃ (i : Nat) (ws : List Word), 16 ≤ i ∧ i ≤ 64 ∧ sh = .int .i64 (i : Int) ∧ wz.ownsRow w.heap.size 3 1 v i (lv ws) ∧ Hid (ws = iter ext (i - 16) w0) ∧ Below w.heap.size w wz)
        (fun _ sh _ => (64 - intOf sh).toNat)
      case atStart => exact ⟨16, w0, by omega, by omega, rfl, hown, by rfl, hb⟩
      case round =>
        clear hown hb hbz hlt hi
        obtain ⟨i, ws, hi0, hi, rfl, hown, HWS, hb⟩ := hrel
        obtain ⟨wq2, rfl⟩ : ∃ wq2 : World, wq2 = wr := ⟨_, rfl⟩
        have hbz := hb.size
        have hl : ws.length = i := by have := hown.1; simpa [lv] using this
        obtain ⟨g7, c7, rfl⟩ := ownsRow_addr hown (by omega)
        have hlw := Lw.owned hown
        by_cases hlt : i < 64
        · have HE : Hid (iter ext (i + 1 - 16) w0 = ws ++ [wp (wp (wp (ws.getD (i - 16) 0) (s0 (ws.getD (i - 15) 0))) (ws.getD (i - 7) 0)) (s1 (ws.getD (i - 2) 0))]) := by
            show _ = _
            rw [show i + 1 - 16 = (i - 16) + 1 by omega, iter, ← HWS.out, ext, hl]
          have HL := Lib.hid hl
          clear hl
          obtain ⟨p15, HP15, hp15, hq15⟩ : ∃ p : Nat, Hid (i - 15 = p) ∧ (i : Int) - 15 = (p : Int) ∧ p < i := ⟨i - 15, rfl, by omega, by omega⟩
          obtain ⟨p2, HP2, hp2, hq2⟩ : ∃ p : Nat, Hid (i - 2 = p) ∧ (i : Int) - 2 = (p : Int) ∧ p < i := ⟨i - 2, rfl, by omega, by omega⟩
          obtain ⟨p16, HP16, hp16, hq16⟩ : ∃ p : Nat, Hid (i - 16 = p) ∧ IntKind.i64.wrap ((i : Int) - 16) = (p : Int) ∧ p < i := ⟨i - 16, rfl, by rw [wrap_i64 (by omega) (by omega)]; omega, by omega⟩
          obtain ⟨p7, HP7, hp7, hq7⟩ : ∃ p : Nat, Hid (i - 7 = p) ∧ IntKind.i64.wrap ((i : Int) - 7) = (p : Int) ∧ p < i := ⟨i - 7, rfl, by rw [wrap_i64 (by omega) (by omega)]; omega, by omega⟩
          rw [HP15.out, HP2.out, HP16.out, HP7.out] at HE
          have c15 := hlw.cell (i := p15) (by have := HL.out; omega)
          have c2 := hlw.cell (i := p2) (by have := HL.out; omega)
          have c16 := hlw.cell (i := p16) (by have := HL.out; omega)
          have c7w := hlw.cell (i := p7) (by have := HL.out; omega)
          generalize ws.getD p15 0 = x15 at *
          generalize ws.getD p2 0 = x2 at *
          generalize ws.getD p16 0 = x16 at *
          generalize ws.getD p7 0 = x7 at *
          have n15 := wn_nonneg x15
          have n2 := wn_nonneg x2
          clear hlw
          go_wp2_with fail
          refine (turn_any x15 7 7 _ rfl (by omega) (by omega)).mono ?_
          rintro e w' ⟨rfl, m1, rfl⟩
          go_wp2_with fail
          refine (turn_any x15 18 18 _ rfl (by omega) (by omega)).mono ?_
          rintro e w' ⟨rfl, m2, rfl⟩
          go_wp2_with fail
          refine (turn_any x2 17 17 _ rfl (by omega) (by omega)).mono ?_
          rintro e w' ⟨rfl, m3, rfl⟩
          go_wp2_with fail
          refine (turn_any x2 19 19 _ rfl (by omega) (by omega)).mono ?_
          rintro e w' ⟨rfl, m4, rfl⟩
          obtain ⟨wk, hwk⟩ : ∃ wk, wk = (wq2.drewN (m1 + m2 + m3)).drewN m4 := ⟨_, rfl⟩
          have k16 : wk.cell? ⟨g7, p16, none⟩ = some (.int .i64 (wn x16)) := by rw [hwk]; exact c16
          have k7 : wk.cell? ⟨g7, p7, none⟩ = some (.int .i64 (wn x7)) := by rw [hwk]; exact c7w
          have hownk : wk.ownsRow w.heap.size 3 1 (.slice (some ⟨g7, 0, none⟩) i c7) i (lv ws) := by rw [hwk]; exact hown
          have hbk : Below w.heap.size w wk := by rw [hwk]; exact below_drews (below_drews hb _) _
          rw [← hwk]
          clear hwk c15 c2 c16 c7w hown hb hbz
          have hbz := hbk.size
          have a0 : (0 : Int) ≤ (p16 : Int) := by omega
          have a1 : (p16 : Int) < (i : Int) := by omega
          have a2 : (0 : Int) ≤ (p7 : Int) := by omega
          have a3 : (p7 : Int) < (i : Int) := by omega
          go_wp2_with fail
          have hown1 : wk.drew.ownsRow w.heap.size 3 1 (.slice (some ⟨g7, 0, none⟩) i c7) i (lv ws) := hownk
          obtain ⟨hi3, hz3, hs3, hb3⟩ := HI.out
          go_region_law (first | (refine step_append_own rfl (.tmp 93) (.tmp 110) 44 rfl w.heap.size 3 i3 (.int .i64 0) 1 8 Tryd.underlying44 hi3 hz3 hs3 hb3 rfl (by decide) _ i (lv ws) rfl (hown1.alloc _) ⟨wk.heap.size, 0, none⟩ 1 1 [_] rfl rfl (cells_new wk.drew [_] _) (by simp [Value.oneCell']) (by unfold maxLen; omega) (by omega) (by simp; omega) ?_; intro v1 w1 hown' hgrow') | (go_simp; go_at_call 40; (with_reducible refine (word4 _ _ _ _ _).mono ?_); rintro e w2 ⟨rfl, rfl⟩))
          all_goals
            have hbn := (hbk.drew.alloc hbz _).grown hgrow' (by simp; omega) (fun k e => (hownk.lt k e).1)
            have hown2 := lv_snoc (b := wp (wp (wp x16 (s0 x15)) x7) (s1 x2)) rfl hown'
            clear hownk hown1 hown' hgrow' hbk k16 k7
            go_wp2_with fail
            exact ⟨⟨i + 1, _, by omega, by omega, by go_num, hown2, Lib.hid HE.out.symm, hbn⟩, by simp [intOf]; omega⟩
        · have hi64 : i = 64 := by omega
          subst hi64
          have HWS2 : Hid (ws = sched blk 48) := by show _ = _; rw [HWS.out, HW0.out]; rfl
          have hst := HST.out.below hb HST.out.1
          have hst1 := hst.next ((Below.refl _ _).alloc (Nat.le_refl _) (.cells #[] 3))
          have HSRC := Lib.hid (src_cells hst1)
          have HGS : Hid (gs < wq2.heap.size) := hst.1
          have HLW := Lib.hid hlw
          clear hst1 hst hlw hl HWS HW0 HL0
          rw [show ((64 : Nat) : Int) = (64 : Int) from rfl]
          obtain ⟨hi3, hz3, hs3, hb3⟩ := HI.out
          go_wp2_with (at_builtin; refine wpList_append_own _ rfl _ _ 44 rfl wq2.heap.size 3 i3 (.int .i64 0) 1 8 Tryd.underlying44 hi3 hz3 hs3 hb3 rfl (by decide) _ 0 [] rfl (World.ownsRow_made wq2 #[] 0 (Nat.le_refl _) (by decide) rfl) ⟨gs, 0, none⟩ 8 cs (lv st.list) rfl rfl HSRC.out (lv_one _) (by decide) (by decide) (by simp) ?_; intro v15 w15 hown15 hgrow15 _; have hb15 := ((Below.refl wq2.heap.size wq2).alloc (Nat.le_refl _) (.cells #[] 3)).grown hgrow15 (by simp) (fun k e => by cases e; exact Nat.le_refl _))
          simp only [Nat.zero_add, List.nil_append] at hown15
          refine (k_any w15).mono ?_
          rintro e w' ⟨rfl, rfl⟩
          obtain ⟨g15, c15, rfl⟩ := ownsRow_addr hown15 (by omega)
          have L15 := (Lw.owned hown15).next ((Below.refl _ _).alloc (Nat.le_refl _) (.cells (lv K).toArray 3))
          have LK := Lw.made w15 K 3
          have hb3w := hb15.alloc hb15.size (.cells (lv K).toArray 3)
          have LW := HLW.out.next hb3w
          have LS := (HST.out.below hb HST.out.1).next hb3w
          have hB := hb.trans (hb3w.mono hb.size)
          obtain ⟨W3, gk, hW3, LK, LW, LS, L15, hB⟩ : ∃ W3 gk, (w15.alloc (.cells (lv K).toArray 3) = W3 ∧ w15.heap.size = gk) ∧ Hid (Lw W3 gk K) ∧ Hid (Lw W3 g7 ws) ∧ Hid (Lw W3 gs st.list) ∧ Hid (Lw W3 g15 st.list) ∧ Below w.heap.size w W3 := ⟨_, _, ⟨rfl, rfl⟩, LK, LW, LS, L15, hB⟩
          rw [hW3.1, hW3.2]
          clear hW3 hown15 hgrow15 hb15 hb3w hown hb hbz HSRC HGS HLW hlt
          go_wp2_with fail
          go_loopw [15, 17] (fun v sh wz => ∃ (i g c : Nat), i ≤ 64 ∧ sh = .int .i64 (i : Int) ∧ v = .slice (some ⟨g, 0, none⟩) 8 c ∧ Hid (Lw wz g (rounds st ws i).list) ∧ Below W3.heap.size W3 wz)
            (fun _ sh _ => (64 - intOf sh).toNat)
          case atStart => exact ⟨0, g15, _, by omega, rfl, rfl, L15, Below.refl _ _⟩
          case round =>
            obtain ⟨i, g, c, hi, rfl, rfl, HL15, hb⟩ := hrel
            obtain ⟨wq3, rfl⟩ : ∃ wq3 : World, wq3 = wr := ⟨_, rfl⟩
            have hbz := hb.size
            by_cases hlt : i < 64
            · obtain ⟨⟨xa, xb, xc, xd, xe, xf, xg, xh⟩, HS⟩ : ∃ s, Hid (s = rounds st ws i) := ⟨_, rfl⟩
              have hlw := HL15.out
              rw [← HS.out] at hlw
              have hgl : g < wq3.heap.size := hlw.1
              have la : wq3.cell? ⟨g, 0, none⟩ = some (.int .i64 (wn xa)) := hlw.2 0 (show 0 < 8 by omega)
              have lb : wq3.cell? ⟨g, 1, none⟩ = some (.int .i64 (wn xb)) := hlw.2 1 (show 1 < 8 by omega)
              have lc : wq3.cell? ⟨g, 2, none⟩ = some (.int .i64 (wn xc)) := hlw.2 2 (show 2 < 8 by omega)
              have ld : wq3.cell? ⟨g, 3, none⟩ = some (.int .i64 (wn xd)) := hlw.2 3 (show 3 < 8 by omega)
              have le : wq3.cell? ⟨g, 4, none⟩ = some (.int .i64 (wn xe)) := hlw.2 4 (show 4 < 8 by omega)
              have lf : wq3.cell? ⟨g, 5, none⟩ = some (.int .i64 (wn xf)) := hlw.2 5 (show 5 < 8 by omega)
              have lg : wq3.cell? ⟨g, 6, none⟩ = some (.int .i64 (wn xg)) := hlw.2 6 (show 6 < 8 by omega)
              have lh : wq3.cell? ⟨g, 7, none⟩ = some (.int .i64 (wn xh)) := hlw.2 7 (show 7 < 8 by omega)
              have HR : Hid (rounds st ws (i + 1) = round ⟨xa, xb, xc, xd, xe, xf, xg, xh⟩ (K.getD i 0) (ws.getD i 0)) := by
                show _ = _
                rw [HS.out, rounds]
              have lk := (LK.out.next hb).2 i hlt
              have lw := (LW.out.next hb).2 i (by rw [HWS2.out, sched_length]; omega)
              generalize K.getD i 0 = kk at *
              generalize ws.getD i 0 = ww at *
              have i0 : (0 : Int) ≤ (i : Int) := by omega
              have i1 : (i : Int) < 64 := by omega
              clear hlw HL15
              go_wp2_with fail
              go_quiet ((first | (go_at_call 39; first | (with_reducible exact turnq6 _ _ _) | (with_reducible exact turnq11 _ _ _) | (with_reducible exact turnq25 _ _ _)) | (go_at_call 40; (with_reducible refine Calls.quiet_of_same (word5 _ _ _ _ _ _)))))
              clear lk lw lh hbz
              obtain ⟨wz, hwz⟩ : ∃ wz, wz = wq3.drewN nq := ⟨_, rfl⟩
              replace la : wz.cell? ⟨g, 0, none⟩ = some (.int .i64 (wn xa)) := by rw [hwz]; exact la
              replace lb : wz.cell? ⟨g, 1, none⟩ = some (.int .i64 (wn xb)) := by rw [hwz]; exact lb
              replace lc : wz.cell? ⟨g, 2, none⟩ = some (.int .i64 (wn xc)) := by rw [hwz]; exact lc
              replace ld : wz.cell? ⟨g, 3, none⟩ = some (.int .i64 (wn xd)) := by rw [hwz]; exact ld
              replace le : wz.cell? ⟨g, 4, none⟩ = some (.int .i64 (wn xe)) := by rw [hwz]; exact le
              replace lf : wz.cell? ⟨g, 5, none⟩ = some (.int .i64 (wn xf)) := by rw [hwz]; exact lf
              replace lg : wz.cell? ⟨g, 6, none⟩ = some (.int .i64 (wn xg)) := by rw [hwz]; exact lg
              replace hb : Below W3.heap.size W3 wz := by rw [hwz]; exact below_drews hb _
              replace hgl : g < wz.heap.size := by rw [hwz]; exact hgl
              rw [← hwz]
              clear hwz
              go_wp2_with fail
              go_quiet ((first | (go_at_call 39; first | (with_reducible exact turnq2 _ _ _) | (with_reducible exact turnq13 _ _ _) | (with_reducible exact turnq22 _ _ _)) | (go_at_call 40; (with_reducible refine Calls.quiet_of_same (word2 _ _ _)))))
              obtain ⟨wy, hwz⟩ : ∃ wy, wy = wz.drewN nq := ⟨_, rfl⟩
              replace la : wy.cell? ⟨g, 0, none⟩ = some (.int .i64 (wn xa)) := by rw [hwz]; exact la
              replace lb : wy.cell? ⟨g, 1, none⟩ = some (.int .i64 (wn xb)) := by rw [hwz]; exact lb
              replace lc : wy.cell? ⟨g, 2, none⟩ = some (.int .i64 (wn xc)) := by rw [hwz]; exact lc
              replace ld : wy.cell? ⟨g, 3, none⟩ = some (.int .i64 (wn xd)) := by rw [hwz]; exact ld
              replace le : wy.cell? ⟨g, 4, none⟩ = some (.int .i64 (wn xe)) := by rw [hwz]; exact le
              replace lf : wy.cell? ⟨g, 5, none⟩ = some (.int .i64 (wn xf)) := by rw [hwz]; exact lf
              replace lg : wy.cell? ⟨g, 6, none⟩ = some (.int .i64 (wn xg)) := by rw [hwz]; exact lg
              replace hb : Below W3.heap.size W3 wy := by rw [hwz]; exact below_drews hb _
              replace hgl : g < wy.heap.size := by rw [hwz]; exact hgl
              rw [← hwz]
              clear hwz
              go_wp2_with fail
              have hbz := hb.size
              obtain ⟨S, hSd⟩ : ∃ S : World → Prop, S = fun W => W.cell? ⟨g, 0, none⟩ = some (.int .i64 (wn xa)) ∧ W.cell? ⟨g, 1, none⟩ = some (.int .i64 (wn xb)) ∧ W.cell? ⟨g, 2, none⟩ = some (.int .i64 (wn xc)) ∧ W.cell? ⟨g, 3, none⟩ = some (.int .i64 (wn xd)) ∧ W.cell? ⟨g, 4, none⟩ = some (.int .i64 (wn xe)) ∧ W.cell? ⟨g, 5, none⟩ = some (.int .i64 (wn xf)) ∧ W.cell? ⟨g, 6, none⟩ = some (.int .i64 (wn xg)) := ⟨_, rfl⟩
              have hS1 : ∀ W, Below wy.heap.size wy W → S W := by
                intro W hW
                rw [hSd]
                exact ⟨(hW.cell (p := ⟨g, 0, none⟩) hgl).trans la, (hW.cell (p := ⟨g, 1, none⟩) hgl).trans lb, (hW.cell (p := ⟨g, 2, none⟩) hgl).trans lc, (hW.cell (p := ⟨g, 3, none⟩) hgl).trans ld, (hW.cell (p := ⟨g, 4, none⟩) hgl).trans le, (hW.cell (p := ⟨g, 5, none⟩) hgl).trans lf, (hW.cell (p := ⟨g, 6, none⟩) hgl).trans lg⟩
              have hS0 := hS1 wy.drew (Below.refl _ _).drew
              have hS2 := fun o => hS1 (wy.alloc o).drew ((Below.refl _ _).alloc (Nat.le_refl _) o).drew
              rw [hSd] at hS0 hS2
              clear hS1 hSd S la lb lc ld le lf lg
              go_region_held3 (fun W => W.cell? ⟨g, 0, none⟩ = some (.int .i64 (wn xa)) ∧ W.cell? ⟨g, 1, none⟩ = some (.int .i64 (wn xb)) ∧ W.cell? ⟨g, 2, none⟩ = some (.int .i64 (wn xc)) ∧ W.cell? ⟨g, 3, none⟩ = some (.int .i64 (wn xd)) ∧ W.cell? ⟨g, 4, none⟩ = some (.int .i64 (wn xe)) ∧ W.cell? ⟨g, 5, none⟩ = some (.int .i64 (wn xf)) ∧ W.cell? ⟨g, 6, none⟩ = some (.int .i64 (wn xg)))
                (with_reducible (first | exact hS0 | exact hS2 _))
                (first | (go_at_call 40; (with_reducible refine (word2 _ _ _).mono ?_); rintro e w2 ⟨rfl, rfl⟩))
              go_wp2_with fail
              refine ⟨⟨i + 1, wy.heap.size, 8, by omega, by go_num, rfl, ?_, (hb.alloc hbz _).drew⟩, by simp [intOf]; omega⟩
              show Lw _ _ _
              rw [HR.out]
              exact (Lw.made wy (round ⟨xa, xb, xc, xd, xe, xf, xg, xh⟩ kk ww).list 3).drew
            · have hi64 : i = 64 := by omega
              subst hi64
              rw [show ((64 : Nat) : Int) = (64 : Int) from rfl]
              obtain ⟨s, HS⟩ : ∃ s, Hid (s = rounds st ws 64) := ⟨_, rfl⟩
              have HB : Hid (block st ((bs.drop at_).take 64) = st.add s) := by
                show _ = _
                rw [HS.out, HWS2.out, ← HBK.out]; rfl
              have HL16 : Hid (Lw wq3 g s.list) := by rw [HS.out]; exact HL15
              have LS3 : Hid (Lw wq3 gs st.list) := LS.out.next hb
              have hB3 := hB.trans (hb.mono hB.size)
              clear HL15 hlt hi LK LW L15
              go_wp2_with fail
              go_loopw [21, 22] (fun v sh wz => ∃ (i : Nat), i ≤ 8 ∧ sh = .int .i64 (i : Int) ∧ wz.ownsRow wq3.heap.size 3 1 v i (lv ((st.add s).list.take i)) ∧ Below wq3.heap.size wq3 wz)
                (fun _ sh _ => (8 - intOf sh).toNat)
              case atStart => exact ⟨0, by omega, rfl, World.ownsRow_nil _ _ _ _, Below.refl _ _⟩
              case round =>
                clear hb hbz
                obtain ⟨i, hi, rfl, hown, hb⟩ := hrel
                obtain ⟨wq4, rfl⟩ : ∃ wq4 : World, wq4 = wr := ⟨_, rfl⟩
                have hbz := hb.size
                by_cases hlt : i < 8
                · have la := (HL16.out.next hb).2 i hlt
                  have lb := (LS3.out.next hb).2 i hlt
                  have hgl := HL16.out.1
                  have hgs := LS3.out.1
                  have HN : Hid ((st.add s).list.take (i + 1) = (st.add s).list.take i ++ [wp (st.list.getD i 0) (s.list.getD i 0)]) := by
                    show _ = _
                    rcases (show i = 0 ∨ i = 1 ∨ i = 2 ∨ i = 3 ∨ i = 4 ∨ i = 5 ∨ i = 6 ∨ i = 7 by omega) with e | e | e | e | e | e | e | e <;> subst e <;> rfl
                  generalize st.list.getD i 0 = xa at *
                  generalize s.list.getD i 0 = xb at *
                  have i0 : (0 : Int) ≤ (i : Int) := by omega
                  have i1 : (i : Int) < 8 := by omega
                  go_wp2_with fail
                  have hS1 : ∀ W, Below wq3.heap.size wq4 W → (W.cell? ⟨gs, i, none⟩ = some (.int .i64 (wn xa)) ∧ W.cell? ⟨g, i, none⟩ = some (.int .i64 (wn xb))) :=
                    fun W hW => ⟨(hW.cell (p := ⟨gs, i, none⟩) hgs).trans lb, (hW.cell (p := ⟨g, i, none⟩) hgl).trans la⟩
                  have hS0 := hS1 wq4.drew (Below.refl _ _).drew
                  have hS2 := fun o => hS1 (wq4.alloc o).drew ((Below.refl _ _).alloc hbz o).drew
                  have HS1 := Lib.hid hS1
                  clear hS1 la lb
                  have hown1 : wq4.drew.ownsRow wq3.heap.size 3 1 u21 i (lv ((st.add s).list.take i)) := hown
                  obtain ⟨hi3, hz3, hs3, hb3⟩ := HI.out
                  go_region_held3 (fun W => W.cell? ⟨gs, i, none⟩ = some (.int .i64 (wn xa)) ∧ W.cell? ⟨g, i, none⟩ = some (.int .i64 (wn xb)))
                    (with_reducible (first | exact hS0 | exact hS2 _ | exact hod))
                    (first | (refine step_append_own rfl (.tmp 239) (.tmp 250) 44 rfl wq3.heap.size 3 i3 (.int .i64 0) 1 8 Tryd.underlying44 hi3 hz3 hs3 hb3 rfl (by decide) _ i (lv ((st.add s).list.take i)) rfl (hown1.alloc _) ⟨wq4.heap.size, 0, none⟩ 1 1 [_] rfl rfl (cells_new wq4.drew [_] _) (by simp [Value.oneCell']) (by unfold maxLen; omega) (by omega) (by simp; omega) ?_; intro v1 w1 hown' hgrow'; have hbn := ((Below.refl wq3.heap.size wq4).drew.alloc hbz _).grown hgrow' (by simp; omega) (fun k e => (hown.lt k e).1); have hod := HS1.out w1 hbn) | (go_at_call 40; (with_reducible refine (word2 _ _ _).mono ?_); rintro e w2 ⟨rfl, rfl⟩))
                  have hown2 := lv_snoc (b := wp xa xb) rfl hown'
                  rw [← HN.out] at hown2
                  have hbn2 := hb.trans hbn
                  clear hown hown1 hown' hgrow' hb hod hS0 hS2 hbn
                  go_wp2_with fail
                  exact ⟨⟨i + 1, by omega, by go_num, hown2, hbn2⟩, by simp [intOf]; omega⟩
                · have hi8 : i = 8 := by omega
                  subst hi8
                  obtain ⟨gr, cr, rfl⟩ := ownsRow_addr hown (by omega)
                  have hR := Lw.owned hown
                  rw [show (st.add s).list.take 8 = (st.add s).list from rfl, ← HB.out] at hR
                  have HR := Lib.hid hR
                  clear hR
                  go_wp2_with fail
                  exact bodyPost_ret (results_tmp rfl _ _ _) rfl ⟨gr, cr, rfl, HR.out, hB3.trans (hb.mono hB3.size)⟩
end
end Go.Proofs.YtejckicjfmhhoaaDoor

/- What Hex returns. -/
import Derived.Test.YtejckicjfmhhoaaDoorSum
import Derived.Deep.RegionLaw
namespace Dg

def hexT : List UInt8 := [48, 49, 50, 51, 52, 53, 54, 55, 56, 57, 97, 98, 99, 100, 101, 102]
def hexd (n : Nat) : UInt8 := hexT.getD n 0
def hex2 (c : UInt8) : List UInt8 := [hexd (c.toNat / 16), hexd (c.toNat % 16)]
def hexL (s : List UInt8) : List UInt8 := s.flatMap hex2

end Dg
namespace Go.Proofs.YtejckicjfmhhoaaDoor
open Go.RowKit Dg

theorem step_append_own {P : Program} {ops : Array Oper} {o : Oper} {a : Act} {w : World} {K : Act → World → Prop} {Q : Exit → Act → World → Prop} {E : Prop}
    (hgd : o.guard = none) (s x : Operand) (t : TypeId) (ho : o.op = .call { callee := .builtin .append, args := #[s, x], argTypes := #[t, t] })
    (base : Nat) (e : TypeId) (i : TypeInfo) (z : Value) (size bytes : Nat) (ht : P.underlying t = some (.slice e)) (hi : P.info? e = some i) (hz : i.zero = some z)
    (hsize : i.size = size) (hby : i.bytes = bytes) (hzs : z.cells.size = size) (hsz : 0 < size)
    (v : Value) (n : Nat) (xs : List Value) (hs : a.eval s = v) (hown : w.ownsRow base e size v n xs)
    (ad : Addr) (m c : Nat) (news : List Value) (hx : a.eval x = .slice (some ad) m c) (hl : news.length = m * size) (hnews : ∀ j u, news[j]? = some u → w.cell? (ad.add j) = some u) (h1 : ∀ u ∈ news, u.oneCell' = true)
    (h63 : n + m ≤ maxLen) (hbytes : (n + m) * bytes ≤ 140737488355328) (hbase : base ≤ w.heap.size)
    (h : ∀ v' w', w'.ownsRow base e size v' (n + m) (xs ++ news) → w.grownBy w' v.ownBlock → K (a.put o.dst v') w') :
    if Region.wanted o (yielded ops a.tmps) = true then Oper.wp P o a w K Q else E := by
  rw [if_pos (by simp [Region.wanted, hgd])]
  exact wp_append_own w s x t ho base e i z size bytes ht hi hz hsize hby hzs hsz v n xs hs hown ad m c news hx hl hnews h1 h63 hbytes hbase fun v' w' h2 h3 _ => h v' w' h2 h3

theorem tab_hex {z : Int} {n : Nat} (hz : z = n) (h : n < 16) (h' : z.toNat < (ByteArray.mk #[48, 49, 50, 51, 52, 53, 54, 55, 56, 57, 97, 98, 99, 100, 101, 102]).size) : ((ByteArray.mk #[48, 49, 50, 51, 52, 53, 54, 55, 56, 57, 97, 98, 99, 100, 101, 102])[z.toNat]'h') = hexd n := by
  subst hz
  rcases (show n = 0 ∨ n = 1 ∨ n = 2 ∨ n = 3 ∨ n = 4 ∨ n = 5 ∨ n = 6 ∨ n = 7 ∨ n = 8 ∨ n = 9 ∨ n = 10 ∨ n = 11 ∨ n = 12 ∨ n = 13 ∨ n = 14 ∨ n = 15 by omega) with e | e | e | e | e | e | e | e | e | e | e | e | e | e | e | e <;> subst e <;> rfl

theorem own_str {w : World} {base : Nat} {v : Value} {l : List UInt8} {n : Nat} (h : w.ownsRow base 5 1 v n (bc l)) :
    (convert 30 9 v).run Tryd.prog w = .ok (.string ⟨l.toArray⟩) w := by
  have hn : n = l.length := by have := h.1; simp [bc] at this; omega
  rcases h.2 with ⟨rfl, h0⟩ | ⟨g, cap, cur, rfl, _⟩
  · obtain rfl : l = [] := List.length_eq_zero_iff.1 (by omega)
    subst hn
    exact (by kernel_rfl : (convert 30 9 (.slice none 0 0)).run Tryd.prog w = .ok (.string ⟨#[]⟩) w)
  · exact own_string h

theorem hex_own {w : World} {base : Nat} {v : Value} {n : Nat} {l : List UInt8} {c x y : UInt8} (hx : x = hexd (c.toNat / 16)) (hy : y = hexd (c.toNat % 16))
    (h : w.ownsRow base 5 1 v n (bc l ++ [.int .u8 (x.toNat : Int), .int .u8 (y.toNat : Int)])) : w.ownsRow base 5 1 v n (bc (l ++ hex2 c)) := by
  subst hx hy
  simpa [bc, hex2] using h

theorem and15 (c : UInt8) : bits .and .u8 (c.toNat : Int) 15 = (c.toNat : Int) % 16 := by
  have h : ∀ d : Fin 256, bits .and .u8 ((d.val : Nat) : Int) 15 = ((d.val : Nat) : Int) % 16 := by decide +kernel
  exact h ⟨c.toNat, c.toNat_lt⟩

set_option maxRecDepth 100000 in
theorem hex_any (s : ByteArray) (w : World) (hs : s.size ≤ 1000000) :
    Calls Tryd.prog 11 #[.string s] w fun e w' => e = .returned (.string ⟨(hexL s.data.toList).toArray⟩) ∧ Below w.heap.size w w' := by
  go_enter Tryd.func11, Tryd.ntmps11
  obtain ⟨i5, hi5, hz5, hs5, hb5⟩ := info_parts Tryd.info5
  have HI := Lib.hid (And.intro hi5 (And.intro hz5 (And.intro hs5 hb5)))
  go_wp2_with (at_make; refine wpList_make_own _ rfl _ _ 30 rfl w.heap.size 5 i5 (.int .u8 0) 1 Tryd.underlying30 hi5 hz5 hs5 .i64 .i64 (2 * s.size) (2 * s.size) rfl (by go_num) (by go_num) (by rw [hb5]; omega) (by unfold maxLen; omega) (Nat.le_refl _) ?_; intro w2 hown2 hgrow2; have hb2 := (Below.refl w.heap.size w).grown hgrow2 (Nat.le_refl _) (fun k e => by cases e))
  go_loopw [3, 11] (fun v sh wr => ∃ (i : Nat) (l : List UInt8), i ≤ s.size ∧ sh = .int .i64 (i : Int) ∧ wr.ownsRow w.heap.size 5 1 v (2 * i) (bc l) ∧ Hid (l = hexL (s.data.toList.take i)) ∧ Below w.heap.size w wr)
    (fun _ sh _ => (s.size - intOf sh).toNat)
  case atStart => exact ⟨0, [], by omega, rfl, hown2, by rfl, hb2⟩
  case round =>
    clear hown2 hb2 hgrow2
    obtain ⟨i, l, hi, rfl, hown, HL, hb⟩ := hrel
    obtain ⟨wo, rfl⟩ : ∃ wo : World, wo = wr := ⟨_, rfl⟩
    by_cases hlt : i < s.size
    · have hc : s.data.toList[i]? = some s[i] := by
        rw [List.getElem?_eq_getElem (by simpa using hlt)]
        rfl
      have hc1 : s[i].toNat < 256 := s[i].toNat_lt
      have hA0 : 0 ≤ (s[i].toNat : Int) / 16 := by omega
      have hA1 : (s[i].toNat : Int) / 16 < 16 := by omega
      have hB := and15 s[i]
      have hB0 : 0 ≤ (s[i].toNat : Int) % 16 := by omega
      have hB1 : (s[i].toNat : Int) % 16 < 16 := by omega
      go_wp2_with fail
      have hown1 : wo.drew.ownsRow w.heap.size 5 1 u3 (2 * i) (bc l) := hown
      have hbz := hb.size
      obtain ⟨hi5, hz5, hs5, hb5⟩ := HI.out
      go_region_law (refine step_append_own rfl (.tmp 14) (.tmp 25) 30 rfl w.heap.size 5 i5 (.int .u8 0) 1 1 Tryd.underlying30 hi5 hz5 hs5 hb5 rfl (by decide) _ (2 * i) (bc l) rfl (hown1.alloc _) ⟨wo.heap.size, 0, none⟩ 2 2 [_, _] rfl rfl (cells_new wo.drew [_, _] _) (by simp [Value.oneCell']) (by unfold maxLen; omega) (by omega) (by simp; omega) ?_; intro v1 w1 hown' hgrow')
      all_goals
        have hb' : Below w.heap.size w w1 := (hb.drew.alloc hbz _).grown hgrow' (by simp; omega) (fun k e => (hown.lt k e).1)
        have hown3 := hex_own (c := s[i]) (tab_hex (n := s[i].toNat / 16) (by simp) (by omega) _) (tab_hex (n := s[i].toNat % 16) (by simp) (by omega) _) hown'
        clear hown' hgrow' hown1 hown hb
        go_wp2_with fail
        refine ⟨⟨i + 1, _, by omega, by go_num, hown3, ?_, hb'⟩, by simp [intOf]; omega⟩
        show _ = _
        rw [HL.out, List.take_add_one, hc]
        simp [hexL]
    · have hcv := own_str hown
      go_wp2_with fail
      refine bodyPost_ret (results_tmp rfl _ _ _) rfl ⟨?_, hb⟩
      rw [HL.out, List.take_of_length_le (by simpa using hlt)]
      rfl
end Go.Proofs.YtejckicjfmhhoaaDoor

/- DigestKeys returns true. -/
import Derived.Test.YtejckicjfmhhoaaDoorF3
import Derived.Deep.RegionLaw
import Derived.BigRegion
import Derived.Deep.AppendLies
import Derived.Deep.RegionHeld3
import Derived.Deep.QuietTactic
import Derived.BigQuiet
import Derived.WalkSmall
namespace Dg

theorem macK_short {key : List UInt8} (h : key.length ≤ 64) : macK key = key := if_neg (by omega)
theorem mac_nul (key s : List UInt8) (h : key.length < 64) : macL (key ++ [0]) s = macL key s := by
  unfold macL
  rw [macK_short (by simp; omega), macK_short (by omega)]
  have : full (key ++ [0]) = full key := by
    unfold full
    rw [List.append_assoc, List.length_append, List.length_singleton]
    congr 1
    rw [show 64 - key.length = (64 - (key.length + 1)) + 1 by omega, List.replicate_succ]
    rfl
  unfold padL
  rw [this]
theorem mac_sum (key s : List UInt8) (h : 64 < key.length) : macL (sumL key) s = macL key s := by
  unfold macL
  rw [macK_short (by rw [sumL_length]; omega), show macK key = sumL key from if_pos h]
theorem macL_length (key s : List UInt8) : (macL key s).length = 32 := sumL_length _

/-- The masked key, as far as it was laid. -/
def laidK (key : List UInt8) (x : UInt8) (i : Nat) : List UInt8 := ((full key).take i).map (· ^^^ x)
theorem full_get {key : List UInt8} {i : Nat} (hi : i < key.length) : (full key)[i]? = key[i]? := by
  unfold full
  rw [List.getElem?_append_left hi]
theorem full_get0 {key : List UInt8} {i : Nat} (hi : key.length ≤ i) (h64 : i < 64) : (full key)[i]? = some 0 := by
  unfold full
  rw [List.getElem?_append_right hi, List.getElem?_replicate, if_pos (by omega)]
theorem laidK_next {key l : List UInt8} {x c : UInt8} {i : Nat} (H : l = laidK key x i) (hc : (full key)[i]? = some c) : l ++ [c ^^^ x] = laidK key x (i + 1) := by
  unfold laidK at *
  rw [H, List.take_add_one, hc]
  simp
theorem laidK_full {key : List UInt8} (x : UInt8) (h : key.length ≤ 64) : laidK key x 64 = padL key x := by
  unfold laidK padL
  rw [List.take_of_length_le (by rw [full_length h]; omega)]

end Dg
namespace Go.Proofs.YtejckicjfmhhoaaDoor
open Go.RowKit Dg
attribute [local irreducible] sumL macL padL

set_option maxRecDepth 100000 in
theorem keys_big (key s : ByteArray) (w : World) (hG : Good w) (hbig : 2000 < key.size ∨ 2000 < s.size) : Calls Tryd.prog 7 #[.string key, .string s] w fun e w' => e = .returned (.bool true) ∧ Below w.heap.size w w' := by
  go_enter Tryd.func7, Tryd.ntmps7
  go_wp2_with fail
  refine (small_any w hG.1 hG.2).mono ?_
  rintro e w1 ⟨rfl, hb1⟩
  by_cases h1 : 2000 < key.size
  · go_wp2_with fail
    refine bodyPost_ret (results_tmp rfl _ _ _) rfl ⟨rfl, hb1⟩
  · have h2 : 2000 < s.size := by omega
    go_wp2_with fail
    refine bodyPost_ret (results_tmp rfl _ _ _) rfl ⟨rfl, hb1⟩

theorem xor54 (c : UInt8) : bits .xor .u8 (c.toNat : Int) 54 = ((c ^^^ 54).toNat : Int) := xor_u8 c 54
theorem xor92 (c : UInt8) : bits .xor .u8 (c.toNat : Int) 92 = ((c ^^^ 92).toNat : Int) := xor_u8 c 92
theorem nul_list (key : ByteArray) : (key ++ ByteArray.mk #[0]).data.toList = key.data.toList ++ [0] := by
  rw [ByteArray.data_append]
  simp
theorem mac_nulb (key s : ByteArray) (hk : key.size < 64) : macL (key ++ ByteArray.mk #[0]).data.toList s.data.toList = macL key.data.toList s.data.toList := by
  rw [nul_list]
  exact mac_nul _ _ hk
theorem nul_size (key : ByteArray) : (key ++ ByteArray.mk #[0]).size = key.size + 1 := by
  rw [ByteArray.size_append]; rfl
theorem keep_other {W wb : World} {base : Nat} {v u : Value} {n : Nat} {xs : List Value} (hu : W.ownsRow base 5 1 u n xs) (hg : W.grownBy wb v.ownBlock) (hap : ∀ k, v.ownBlock = some k → u.ownBlock ≠ some k) : wb.ownsRow base 5 1 u n xs := by
  refine hu.kept hg ?_
  cases hv : v.ownBlock with
  | none => cases hu' : u.ownBlock with
    | none => exact .inl rfl
    | some k => exact .inr (by simp)
  | some k => exact .inr (hap k hv)
theorem new_apart {W : World} {base : Nat} {v u : Value} {n g c m : Nat} {xs : List Value} (hu : W.ownsRow base 5 1 u n xs) (hap : ∀ k, v.ownBlock = some k → u.ownBlock ≠ some k) (hat : v.ownBlock = some g ∨ g = W.heap.size) :
    ∀ k, (Value.slice (some ⟨g, 0, none⟩) m c).ownBlock = some k → u.ownBlock ≠ some k := by
  intro k hk hk2
  have : g = k := by simpa [Value.ownBlock] using hk
  subst this
  rcases hat with h | h
  · exact hap g h hk2
  · have := (hu.lt g hk2).2; omega
theorem apart_symm {v u : Value} (h : ∀ k, v.ownBlock = some k → u.ownBlock ≠ some k) : ∀ k, u.ownBlock = some k → v.ownBlock ≠ some k := fun k hu hv => h k hv hu
theorem byte_own {w : World} {base : Nat} {v : Value} {n : Nat} {l : List UInt8} {z : Int} {b : UInt8} (hz : z = (b.toNat : Int)) (h : w.ownsRow base 5 1 v n (bc l ++ [.int .u8 z])) : w.ownsRow base 5 1 v n (bc (l ++ [b])) := by
  subst hz
  simpa [bc] using h
theorem own_below {w w' : World} {base size : Nat} {e : TypeId} {v : Value} {n : Nat} {xs : List Value} (h : w.ownsRow base e size v n xs) (hb : Below w.heap.size w w') : w'.ownsRow base e size v n xs := by
  refine ⟨h.1, ?_⟩
  rcases h.2 with hn | ⟨g, cap, cur, rfl, hb', hgg, rest⟩
  · exact .inl hn
  · exact .inr ⟨g, cap, cur, rfl, hb', by rw [hb.block g (Array.getElem?_eq_some_iff.1 hgg).1]; exact hgg, rest⟩
theorem mac_eq (key s : ByteArray) (M : List UInt8) (w : World) (hk : key.size ≤ 1000000) (hs : s.size ≤ 900000) (hG : Good w) (hM : Hid (macL key.data.toList s.data.toList = M)) :
    Calls Tryd.prog 17 #[.string key, .string s] w fun e w' => e = .returned (.string ⟨M.toArray⟩) ∧ Below w.heap.size w w' :=
  (mac_any key s w hk hs hG.1 hG.2).mono fun _ _ ⟨h1, h2⟩ => ⟨by rw [h1, hM.out], h2⟩

set_option maxRecDepth 100000 in
set_option maxHeartbeats 1000000 in
theorem keys_short (key s : ByteArray) (w : World) (hG : Good w) (h1 : key.size ≤ 2000) (h2 : s.size ≤ 2000) (hk : key.size < 64) :
    Calls Tryd.prog 7 #[.string key, .string s] w fun e w' => e = .returned (.bool true) ∧ Below w.heap.size w w' := by
  go_enter Tryd.func7, Tryd.ntmps7
  go_wp2_with fail
  refine (small_any w hG.1 hG.2).mono ?_
  rintro e w1 ⟨rfl, hb1⟩
  have hG1 := hG.next hb1
  go_wp2_with fail
  obtain ⟨M, HM, hM⟩ : ∃ M, Hid (macL key.data.toList s.data.toList = M) ∧ M.length = 32 := ⟨macL key.data.toList s.data.toList, Lib.hid rfl, macL_length _ _⟩
  refine (mac_eq key s M w1 (by omega) (by omega) hG1 HM).mono ?_
  rintro e w2 ⟨rfl, hb2⟩
  have hG2 := hG1.next hb2
  replace hb2 := hb1.trans (hb2.mono hb1.size)
  clear hb1
  go_wp2_with fail
  have e2 := mac_nulb key s hk
  rw [HM.out] at e2
  have hks : (key ++ ByteArray.mk #[0]).size ≤ 1000000 := by rw [nul_size]; omega
  have hC := mac_eq (key ++ ByteArray.mk #[0]) s M w2 hks (by omega) hG2 (Lib.hid e2)
  refine hC.mono ?_
  rintro e w3 ⟨rfl, hb3⟩
  have hG3 := hG2.next hb3
  replace hb3 := hb2.trans (hb3.mono hb2.size)
  go_wp2_with fail
  obtain ⟨i5, hi5, hz5, hs5, hb5⟩ := info_parts Tryd.info5
  have HI := Lib.hid (And.intro hi5 (And.intro hz5 (And.intro hs5 hb5)))
  clear hi5 hz5 hs5 hb5
  go_loopw [7, 8, 9] (fun v u sh wr => ∃ (i : Nat) (li lo : List UInt8), i ≤ 64 ∧ sh = .int .i64 (i : Int) ∧ wr.ownsRow w3.heap.size 5 1 v i (bc li) ∧ wr.ownsRow w3.heap.size 5 1 u i (bc lo) ∧ Hid (∀ k, v.ownBlock = some k → u.ownBlock ≠ some k) ∧ Hid (li = laidK key.data.toList 54 i) ∧ Hid (lo = laidK key.data.toList 92 i) ∧ Below w3.heap.size w3 wr)
    (fun _ _ sh _ => (64 - intOf sh).toNat)
  case atStart => exact ⟨0, [], [], by omega, rfl, World.ownsRow_nil _ _ _ _, World.ownsRow_nil _ _ _ _, (show ∀ k, _ from fun k h => by cases h), by rfl, by rfl, Below.refl _ _⟩
  case round =>
    obtain ⟨i, li, lo, hi, rfl, hown7, hown8, HA, HL7, HL8, hbel⟩ := hrel
    obtain ⟨wa, rfl⟩ : ∃ wa : World, wa = wr := ⟨_, rfl⟩
    have hbz := hbel.size
    by_cases hlt : i < 64
    · by_cases hik : i < key.size
      · obtain ⟨hi5, hz5, hs5, hb5⟩ := HI.out
        go_wp2_with (first | (at_builtin; refine wpList_append_lies _ rfl _ _ 30 rfl w3.heap.size 5 i5 (.int .u8 0) 1 1 Tryd.underlying30 hi5 hz5 hs5 hb5 rfl (by decide) _ _ _ rfl (hown7.alloc _) ⟨wa.heap.size, 0, none⟩ 1 1 [_] rfl rfl (cell_one_new _ _ _) (by simp [Value.oneCell']) (by decide) (by unfold maxLen; omega) (by omega) (by simp; omega) _ rfl ?_; intro g7 cap7 wb hown7' hgrow7 hat7 hlt7; have hown8b := keep_other (hown8.alloc _) hgrow7 HA.out; have hap7 := new_apart (m := i + 1) (c := cap7) (hown8.alloc _) HA.out hat7; have hbb := (hbel.alloc hbz _).grown hgrow7 (by simp; omega) (fun k e => (hown7.lt k e).1); have hbzb := hbb.size) | (at_builtin; refine wpList_append_lies _ rfl _ _ 30 rfl w3.heap.size 5 i5 (.int .u8 0) 1 1 Tryd.underlying30 hi5 hz5 hs5 hb5 rfl (by decide) _ _ _ rfl (hown8b.alloc _) ⟨wb.heap.size, 0, none⟩ 1 1 [_] rfl rfl (cell_one_new _ _ _) (by simp [Value.oneCell']) (by decide) (by unfold maxLen; omega) (by omega) (by simp; omega) _ rfl ?_; intro g8 cap8 wc hown8' hgrow8 hat8 hlt8; have hown7b := keep_other (hown7'.alloc _) hgrow8 (apart_symm hap7); have hap8 := new_apart (m := i + 1) (c := cap8) (hown7'.alloc _) (apart_symm hap7) hat8; have hbc := (hbb.alloc hbzb _).grown hgrow8 (by simp; omega) (fun k e => (hown8b.lt k e).1)))
        have N7 := laidK_next HL7.out ((full_get hik).trans (show key.data.toList[i]? = some key[i] by rw [List.getElem?_eq_getElem (by simpa using hik)]; rfl))
        have N8 := laidK_next HL8.out ((full_get hik).trans (show key.data.toList[i]? = some key[i] by rw [List.getElem?_eq_getElem (by simpa using hik)]; rfl))
        have o7 := byte_own (xor54 key[i]) hown7b
        have o8 := byte_own (xor92 key[i]) hown8'
        refine ⟨⟨i + 1, _, _, by omega, by go_num, o7, o8, Lib.hid (apart_symm hap8), Lib.hid N7, Lib.hid N8, hbc⟩, by simp [intOf]; omega⟩
      · obtain ⟨hi5, hz5, hs5, hb5⟩ := HI.out
        go_wp2_with (first | (at_builtin; refine wpList_append_lies _ rfl _ _ 30 rfl w3.heap.size 5 i5 (.int .u8 0) 1 1 Tryd.underlying30 hi5 hz5 hs5 hb5 rfl (by decide) _ _ _ rfl (hown7.alloc _) ⟨wa.heap.size, 0, none⟩ 1 1 [_] rfl rfl (cell_one_new _ _ _) (by simp [Value.oneCell']) (by decide) (by unfold maxLen; omega) (by omega) (by simp; omega) _ rfl ?_; intro g7 cap7 wb hown7' hgrow7 hat7 hlt7; have hown8b := keep_other (hown8.alloc _) hgrow7 HA.out; have hap7 := new_apart (m := i + 1) (c := cap7) (hown8.alloc _) HA.out hat7; have hbb := (hbel.alloc hbz _).grown hgrow7 (by simp; omega) (fun k e => (hown7.lt k e).1); have hbzb := hbb.size) | (at_builtin; refine wpList_append_lies _ rfl _ _ 30 rfl w3.heap.size 5 i5 (.int .u8 0) 1 1 Tryd.underlying30 hi5 hz5 hs5 hb5 rfl (by decide) _ _ _ rfl (hown8b.alloc _) ⟨wb.heap.size, 0, none⟩ 1 1 [_] rfl rfl (cell_one_new _ _ _) (by simp [Value.oneCell']) (by decide) (by unfold maxLen; omega) (by omega) (by simp; omega) _ rfl ?_; intro g8 cap8 wc hown8' hgrow8 hat8 hlt8; have hown7b := keep_other (hown7'.alloc _) hgrow8 (apart_symm hap7); have hap8 := new_apart (m := i + 1) (c := cap8) (hown7'.alloc _) (apart_symm hap7) hat8; have hbc := (hbb.alloc hbzb _).grown hgrow8 (by simp; omega) (fun k e => (hown8b.lt k e).1)))
        have N7 := laidK_next HL7.out (full_get0 (show key.data.toList.length ≤ i from Nat.le_of_not_lt hik) hlt)
        have N8 := laidK_next HL8.out (full_get0 (show key.data.toList.length ≤ i from Nat.le_of_not_lt hik) hlt)
        have o7 := byte_own (b := 0 ^^^ 54) (by decide) hown7b
        have o8 := byte_own (b := 0 ^^^ 92) (by decide) hown8'
        refine ⟨⟨i + 1, _, _, by omega, by go_num, o7, o8, Lib.hid (apart_symm hap8), Lib.hid N7, Lib.hid N8, hbc⟩, by simp [intOf]; omega⟩
    · have hi64 : i = 64 := by omega
      subst hi64
      have hkl : key.data.toList.length ≤ 64 := by show key.size ≤ 64; omega
      have l7 : li.length = 64 := by rw [HL7.out, laidK_full _ hkl, padL_length _ hkl]
      have l8 : lo.length = 64 := by rw [HL8.out, laidK_full _ hkl, padL_length _ hkl]
      have hMeq : Hid (M = sumL (lo ++ sumL (li ++ s.data.toList))) := by
        show _ = _
        rw [HL7.out, HL8.out, laidK_full _ hkl, laidK_full _ hkl, ← HM.out, macL, macK_short hkl]
      have hGa : Good wa := hG3.next hbel
      have hGd : Good wa.drew := hGa
      have hi0 := own_str (w := wa.drew) hown7
      have ho0 := own_str (w := wa.drew) hown8
      have hbase : Below w.heap.size w wa := hb3.trans (hbel.mono hb3.size)
      have hk64 : key.size ≤ 64 := by omega
      clear HL7 HL8 HA hkl HM hM h1 hi e2 hC hks
      go_wp2_with fail
      have hcat1 : ¬ 9223372036854775807 < 64 + s.size := by omega
      have hown7d := hown7.drew
      have hown8d := hown8.drew
      have hS : ∀ W, Below wa.drew.heap.size wa.drew W → ((convert 30 9 u7).run Tryd.prog W = .ok (.string ⟨li.toArray⟩) W ∧ (convert 30 9 u8).run Tryd.prog W = .ok (.string ⟨lo.toArray⟩) W) := fun W hW => ⟨own_str (own_below hown7d hW), own_str (own_below hown8d hW)⟩
      have HS := Lib.hid hS
      have hKd : KT wa.drew := hGd.1
      have hpd : 0 < wa.drew.heap.size := hGd.2
      clear hS hown7 hown8 hown7d hown8d
      go_region_held3 (fun W => (convert 30 9 u7).run Tryd.prog W = .ok (.string ⟨li.toArray⟩) W ∧ (convert 30 9 u8).run Tryd.prog W = .ok (.string ⟨lo.toArray⟩) W) (with_reducible (first | exact ⟨hi0, ho0⟩ | exact hod | exact hod2))
        (first
          | (go_at_call 18; (with_reducible refine (sum_cat li s _ (by omega) hKd hpd).mono ?_); rintro e wd ⟨R, HR, hR, rfl, hbd⟩; have hod := HS.out wd hbd; have hGd2 := hGd.next hbd; have hKd2 : KT wd := hGd2.1; have hpd2 : 0 < wd.heap.size := hGd2.2)
          | (go_at_call 18; (with_reducible refine (sum_cat lo ⟨R.toArray⟩ _ (by rw [mk_size]; omega) hKd2 hpd2).mono ?_); rintro e we ⟨R5, HR5, hR5, rfl, hbe⟩; have hod2 := HS.out we (Below.trans hbd (hbe.mono hbd.size)); have hRM : R5 = M := (HR5.out.trans (show sumL (lo ++ R) = M by rw [hMeq.out, ← HR.out])); subst hRM))
      go_wp2_with fail
      refine bodyPost_ret (results_tmp rfl _ _ _) rfl ⟨rfl, ?_⟩
      exact hbase.trans (((Below.refl _ _).drew.trans (Below.trans hbd (hbe.mono hbd.size))).mono hbase.size)

set_option maxRecDepth 100000 in
set_option maxHeartbeats 1000000 in
theorem keys_even (key s : ByteArray) (w : World) (hG : Good w) (_h1 : key.size ≤ 2000) (h2 : s.size ≤ 2000) (hk : key.size = 64) :
    Calls Tryd.prog 7 #[.string key, .string s] w fun e w' => e = .returned (.bool true) ∧ Below w.heap.size w w' := by
  go_enter Tryd.func7, Tryd.ntmps7
  go_wp2_with fail
  refine (small_any w hG.1 hG.2).mono ?_
  rintro e w1 ⟨rfl, hb1⟩
  have hG1 := hG.next hb1
  go_wp2_with fail
  obtain ⟨M, HM, hM⟩ : ∃ M, Hid (macL key.data.toList s.data.toList = M) ∧ M.length = 32 := ⟨macL key.data.toList s.data.toList, Lib.hid rfl, macL_length _ _⟩
  refine (mac_eq key s M w1 (by omega) (by omega) hG1 HM).mono ?_
  rintro e w2 ⟨rfl, hb2⟩
  have hG2 := hG1.next hb2
  replace hb2 := hb1.trans (hb2.mono hb1.size)
  clear hb1
  go_wp2_with fail
  obtain ⟨i5, hi5, hz5, hs5, hb5⟩ := info_parts Tryd.info5
  have HI := Lib.hid (And.intro hi5 (And.intro hz5 (And.intro hs5 hb5)))
  clear hi5 hz5 hs5 hb5
  go_loopw [7, 8, 9] (fun v u sh wr => ∃ (i : Nat) (li lo : List UInt8), i ≤ 64 ∧ sh = .int .i64 (i : Int) ∧ wr.ownsRow w2.heap.size 5 1 v i (bc li) ∧ wr.ownsRow w2.heap.size 5 1 u i (bc lo) ∧ Hid (∀ k, v.ownBlock = some k → u.ownBlock ≠ some k) ∧ Hid (li = laidK key.data.toList 54 i) ∧ Hid (lo = laidK key.data.toList 92 i) ∧ Below w2.heap.size w2 wr)
    (fun _ _ sh _ => (64 - intOf sh).toNat)
  case atStart => exact ⟨0, [], [], by omega, rfl, World.ownsRow_nil _ _ _ _, World.ownsRow_nil _ _ _ _, (show ∀ k, _ from fun k h => by cases h), by rfl, by rfl, Below.refl _ _⟩
  case round =>
    obtain ⟨i, li, lo, hi, rfl, hown7, hown8, HA, HL7, HL8, hbel⟩ := hrel
    obtain ⟨wa, rfl⟩ : ∃ wa : World, wa = wr := ⟨_, rfl⟩
    have hbz := hbel.size
    by_cases hlt : i < 64
    · by_cases hik : i < key.size
      · obtain ⟨hi5, hz5, hs5, hb5⟩ := HI.out
        go_wp2_with (first | (at_builtin; refine wpList_append_lies _ rfl _ _ 30 rfl w2.heap.size 5 i5 (.int .u8 0) 1 1 Tryd.underlying30 hi5 hz5 hs5 hb5 rfl (by decide) _ _ _ rfl (hown7.alloc _) ⟨wa.heap.size, 0, none⟩ 1 1 [_] rfl rfl (cell_one_new _ _ _) (by simp [Value.oneCell']) (by decide) (by unfold maxLen; omega) (by omega) (by simp; omega) _ rfl ?_; intro g7 cap7 wb hown7' hgrow7 hat7 hlt7; have hown8b := keep_other (hown8.alloc _) hgrow7 HA.out; have hap7 := new_apart (m := i + 1) (c := cap7) (hown8.alloc _) HA.out hat7; have hbb := (hbel.alloc hbz _).grown hgrow7 (by simp; omega) (fun k e => (hown7.lt k e).1); have hbzb := hbb.size) | (at_builtin; refine wpList_append_lies _ rfl _ _ 30 rfl w2.heap.size 5 i5 (.int .u8 0) 1 1 Tryd.underlying30 hi5 hz5 hs5 hb5 rfl (by decide) _ _ _ rfl (hown8b.alloc _) ⟨wb.heap.size, 0, none⟩ 1 1 [_] rfl rfl (cell_one_new _ _ _) (by simp [Value.oneCell']) (by decide) (by unfold maxLen; omega) (by omega) (by simp; omega) _ rfl ?_; intro g8 cap8 wc hown8' hgrow8 hat8 hlt8; have hown7b := keep_other (hown7'.alloc _) hgrow8 (apart_symm hap7); have hap8 := new_apart (m := i + 1) (c := cap8) (hown7'.alloc _) (apart_symm hap7) hat8; have hbc := (hbb.alloc hbzb _).grown hgrow8 (by simp; omega) (fun k e => (hown8b.lt k e).1)))
        have N7 := laidK_next HL7.out ((full_get hik).trans (show key.data.toList[i]? = some key[i] by rw [List.getElem?_eq_getElem (by simpa using hik)]; rfl))
        have N8 := laidK_next HL8.out ((full_get hik).trans (show key.data.toList[i]? = some key[i] by rw [List.getElem?_eq_getElem (by simpa using hik)]; rfl))
        have o7 := byte_own (xor54 key[i]) hown7b
        have o8 := byte_own (xor92 key[i]) hown8'
        refine ⟨⟨i + 1, _, _, by omega, by go_num, o7, o8, Lib.hid (apart_symm hap8), Lib.hid N7, Lib.hid N8, hbc⟩, by simp [intOf]; omega⟩
      · exact absurd (by omega : i < key.size) hik
    · have hi64 : i = 64 := by omega
      subst hi64
      have hkl : key.data.toList.length ≤ 64 := by show key.size ≤ 64; omega
      have l7 : li.length = 64 := by rw [HL7.out, laidK_full _ hkl, padL_length _ hkl]
      have l8 : lo.length = 64 := by rw [HL8.out, laidK_full _ hkl, padL_length _ hkl]
      have hMeq : Hid (M = sumL (lo ++ sumL (li ++ s.data.toList))) := by
        show _ = _
        rw [HL7.out, HL8.out, laidK_full _ hkl, laidK_full _ hkl, ← HM.out, macL, macK_short hkl]
      have hGa : Good wa := hG2.next hbel
      have hGd : Good wa.drew := hGa
      have hi0 := own_str (w := wa.drew) hown7
      have ho0 := own_str (w := wa.drew) hown8
      have hbase : Below w.heap.size w wa := hb2.trans (hbel.mono hb2.size)
      have hk64 : key.size ≤ 64 := by omega
      clear HL7 HL8 HA hkl HM hM hi 
      go_wp2_with fail
      have hcat1 : ¬ 9223372036854775807 < 64 + s.size := by omega
      have hown7d := hown7.drew
      have hown8d := hown8.drew
      have hS : ∀ W, Below wa.drew.heap.size wa.drew W → ((convert 30 9 u7).run Tryd.prog W = .ok (.string ⟨li.toArray⟩) W ∧ (convert 30 9 u8).run Tryd.prog W = .ok (.string ⟨lo.toArray⟩) W) := fun W hW => ⟨own_str (own_below hown7d hW), own_str (own_below hown8d hW)⟩
      have HS := Lib.hid hS
      have hKd : KT wa.drew := hGd.1
      have hpd : 0 < wa.drew.heap.size := hGd.2
      clear hS hown7 hown8 hown7d hown8d
      go_region_held3 (fun W => (convert 30 9 u7).run Tryd.prog W = .ok (.string ⟨li.toArray⟩) W ∧ (convert 30 9 u8).run Tryd.prog W = .ok (.string ⟨lo.toArray⟩) W) (with_reducible (first | exact ⟨hi0, ho0⟩ | exact hod | exact hod2))
        (first
          | (go_at_call 18; (with_reducible refine (sum_cat li s _ (by omega) hKd hpd).mono ?_); rintro e wd ⟨R, HR, hR, rfl, hbd⟩; have hod := HS.out wd hbd; have hGd2 := hGd.next hbd; have hKd2 : KT wd := hGd2.1; have hpd2 : 0 < wd.heap.size := hGd2.2)
          | (go_at_call 18; (with_reducible refine (sum_cat lo ⟨R.toArray⟩ _ (by rw [mk_size]; omega) hKd2 hpd2).mono ?_); rintro e we ⟨R5, HR5, hR5, rfl, hbe⟩; have hod2 := HS.out we (Below.trans hbd (hbe.mono hbd.size)); have hRM : R5 = M := (HR5.out.trans (show sumL (lo ++ R) = M by rw [hMeq.out, ← HR.out])); subst hRM))
      go_wp2_with fail
      refine bodyPost_ret (results_tmp rfl _ _ _) rfl ⟨rfl, ?_⟩
      exact hbase.trans (((Below.refl _ _).drew.trans (Below.trans hbd (hbe.mono hbd.size))).mono hbase.size)

set_option maxRecDepth 100000 in
set_option maxHeartbeats 1000000 in
theorem keys_long (key s : ByteArray) (w : World) (hG : Good w) (h1 : key.size ≤ 2000) (h2 : s.size ≤ 2000) (hk : 64 < key.size) :
    Calls Tryd.prog 7 #[.string key, .string s] w fun e w' => e = .returned (.bool true) ∧ Below w.heap.size w w' := by
  go_enter Tryd.func7, Tryd.ntmps7
  go_wp2_with fail
  refine (small_any w hG.1 hG.2).mono ?_
  rintro e w1 ⟨rfl, hb1⟩
  have hG1 := hG.next hb1
  go_wp2_with fail
  obtain ⟨M, HM, hM⟩ : ∃ M, Hid (macL key.data.toList s.data.toList = M) ∧ M.length = 32 := ⟨macL key.data.toList s.data.toList, Lib.hid rfl, macL_length _ _⟩
  refine (mac_eq key s M w1 (by omega) (by omega) hG1 HM).mono ?_
  rintro e w2 ⟨rfl, hb2⟩
  have hG2 := hG1.next hb2
  replace hb2 := hb1.trans (hb2.mono hb1.size)
  clear hb1
  go_wp2_with fail
  have hks : (sumL key.data.toList).length = 32 := sumL_length _
  refine (sum_any key w2 (by omega) hG2.1 hG2.2).mono ?_
  rintro e w3 ⟨rfl, hb3⟩
  have hG3 := hG2.next hb3
  replace hb3 := hb2.trans (hb3.mono hb2.size)
  go_wp2_with fail
  have e2 : macL (ByteArray.mk (sumL key.data.toList).toArray).data.toList s.data.toList = M := by rw [show (ByteArray.mk (sumL key.data.toList).toArray).data.toList = sumL key.data.toList from rfl, mac_sum _ _ (show 64 < key.data.toList.length from hk)]; exact HM.out
  have hC := mac_eq ⟨(sumL key.data.toList).toArray⟩ s M w3 (by rw [mk_size]; omega) (by omega) hG3 (Lib.hid e2)
  clear e2 hks
  refine hC.mono ?_
  rintro e w4 ⟨rfl, hb4⟩
  have hG4 := hG3.next hb4
  replace hb4 := hb3.trans (hb4.mono hb3.size)
  go_wp2_with fail
  obtain ⟨i5, hi5, hz5, hs5, hb5⟩ := info_parts Tryd.info5
  have HI := Lib.hid (And.intro hi5 (And.intro hz5 (And.intro hs5 hb5)))
  clear hi5 hz5 hs5 hb5
  go_loopw [7, 8, 9] (fun v u sh wr => ∃ (i : Nat) (li lo : List UInt8), i ≤ 64 ∧ sh = .int .i64 (i : Int) ∧ wr.ownsRow w4.heap.size 5 1 v i (bc li) ∧ wr.ownsRow w4.heap.size 5 1 u i (bc lo) ∧ Hid (∀ k, v.ownBlock = some k → u.ownBlock ≠ some k) ∧ Hid (li = laidK key.data.toList 54 i) ∧ Hid (lo = laidK key.data.toList 92 i) ∧ Below w4.heap.size w4 wr)
    (fun _ _ sh _ => (64 - intOf sh).toNat)
  case atStart => exact ⟨0, [], [], by omega, rfl, World.ownsRow_nil _ _ _ _, World.ownsRow_nil _ _ _ _, (show ∀ k, _ from fun k h => by cases h), by rfl, by rfl, Below.refl _ _⟩
  case round =>
    obtain ⟨i, li, lo, hi, rfl, hown7, hown8, HA, HL7, HL8, hbel⟩ := hrel
    obtain ⟨wa, rfl⟩ : ∃ wa : World, wa = wr := ⟨_, rfl⟩
    have hbz := hbel.size
    by_cases hlt : i < 64
    · by_cases hik : i < key.size
      · obtain ⟨hi5, hz5, hs5, hb5⟩ := HI.out
        go_wp2_with (first | (at_builtin; refine wpList_append_lies _ rfl _ _ 30 rfl w4.heap.size 5 i5 (.int .u8 0) 1 1 Tryd.underlying30 hi5 hz5 hs5 hb5 rfl (by decide) _ _ _ rfl (hown7.alloc _) ⟨wa.heap.size, 0, none⟩ 1 1 [_] rfl rfl (cell_one_new _ _ _) (by simp [Value.oneCell']) (by decide) (by unfold maxLen; omega) (by omega) (by simp; omega) _ rfl ?_; intro g7 cap7 wb hown7' hgrow7 hat7 hlt7; have hown8b := keep_other (hown8.alloc _) hgrow7 HA.out; have hap7 := new_apart (m := i + 1) (c := cap7) (hown8.alloc _) HA.out hat7; have hbb := (hbel.alloc hbz _).grown hgrow7 (by simp; omega) (fun k e => (hown7.lt k e).1); have hbzb := hbb.size) | (at_builtin; refine wpList_append_lies _ rfl _ _ 30 rfl w4.heap.size 5 i5 (.int .u8 0) 1 1 Tryd.underlying30 hi5 hz5 hs5 hb5 rfl (by decide) _ _ _ rfl (hown8b.alloc _) ⟨wb.heap.size, 0, none⟩ 1 1 [_] rfl rfl (cell_one_new _ _ _) (by simp [Value.oneCell']) (by decide) (by unfold maxLen; omega) (by omega) (by simp; omega) _ rfl ?_; intro g8 cap8 wc hown8' hgrow8 hat8 hlt8; have hown7b := keep_other (hown7'.alloc _) hgrow8 (apart_symm hap7); have hap8 := new_apart (m := i + 1) (c := cap8) (hown7'.alloc _) (apart_symm hap7) hat8; have hbc := (hbb.alloc hbzb _).grown hgrow8 (by simp; omega) (fun k e => (hown8b.lt k e).1)))
        have N7 := laidK_next HL7.out ((full_get hik).trans (show key.data.toList[i]? = some key[i] by rw [List.getElem?_eq_getElem (by simpa using hik)]; rfl))
        have N8 := laidK_next HL8.out ((full_get hik).trans (show key.data.toList[i]? = some key[i] by rw [List.getElem?_eq_getElem (by simpa using hik)]; rfl))
        have o7 := byte_own (xor54 key[i]) hown7b
        have o8 := byte_own (xor92 key[i]) hown8'
        refine ⟨⟨i + 1, _, _, by omega, by go_num, o7, o8, Lib.hid (apart_symm hap8), Lib.hid N7, Lib.hid N8, hbc⟩, by simp [intOf]; omega⟩
      · exact absurd (by omega : i < key.size) hik
    · have hi64 : i = 64 := by omega
      subst hi64
      have hbase : Below w.heap.size w wa := hb4.trans (hbel.mono hb4.size)
      have hk64 : 64 < key.size := by omega
      have hd : decide ((key.size : Int) ≤ 64) = false := by simp; omega
      clear HL7 HL8 HA HM hM h1 hi hown7 hown8 hC
      go_wp2_with fail
      go_quiet (fail)
      go_wp2_with fail
      refine bodyPost_ret (results_tmp rfl _ _ _) rfl ⟨rfl, below_drewN hbase _⟩

theorem keys_all (key s : ByteArray) (w : World) (hG : Good w) : Calls Tryd.prog 7 #[.string key, .string s] w fun e w' => e = .returned (.bool true) ∧ Below w.heap.size w w' := by
  by_cases h1 : 2000 < key.size
  · exact keys_big key s w hG (.inl h1)
  · by_cases h2 : 2000 < s.size
    · exact keys_big key s w hG (.inr h2)
    · rcases Nat.lt_trichotomy key.size 64 with h | h | h
      · exact keys_short key s w hG (by omega) (by omega) h
      · exact keys_even key s w hG (by omega) (by omega) h
      · exact keys_long key s w hG (by omega) (by omega) h
end Go.Proofs.YtejckicjfmhhoaaDoor

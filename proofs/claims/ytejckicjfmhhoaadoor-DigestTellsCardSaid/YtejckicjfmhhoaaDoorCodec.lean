/- Hex and Base32 are undone by Unhex and Unbase32; plain Lean. -/
import Derived.Test.YtejckicjfmhhoaaDoorUnb
namespace Dg

theorem place_get : ∀ (l : List UInt8) (c : UInt8) (n : Nat), place l c = some n → l.getD n 0 = c
  | [], _, _ => by simp [place]
  | b :: l, c, n => by
    unfold place
    split
    · rename_i h
      intro e; cases e
      simpa using h
    · intro h
      obtain ⟨m, hm, rfl⟩ := Option.map_eq_some_iff.1 h
      rw [List.getD_cons_succ]
      exact place_get l c m hm

theorem place_hexd (n : Nat) (h : n < 16) : place hexT (hexd n) = some n := by
  have : ∀ d : Fin 16, place hexT (hexd d.val) = some d.val := by decide
  exact this ⟨n, h⟩

theorem hexL_cons (c : UInt8) (r : List UInt8) : hexL (c :: r) = hexd (c.toNat / 16) :: hexd (c.toNat % 16) :: hexL r := rfl

theorem hexL_length : ∀ (s : List UInt8), (hexL s).length = 2 * s.length
  | [] => rfl
  | c :: r => by rw [hexL_cons, List.length_cons, List.length_cons, hexL_length r, List.length_cons]; omega

theorem unhexA_hexL : ∀ (s acc : List UInt8), unhexA acc (hexL s) = some (acc ++ s)
  | [], acc => by simp [hexL, unhexA]
  | c :: r, acc => by
    have h := c.toNat_lt
    rw [hexL_cons, unhexA, place_hexd _ (by omega), place_hexd _ (by omega)]
    show unhexA (acc ++ [UInt8.ofNat (16 * (c.toNat / 16) + c.toNat % 16)]) (hexL r) = _
    rw [unhexA_hexL r, Nat.div_add_mod, UInt8.ofNat_toNat]
    simp

theorem hexL_unhexA : ∀ (h acc b : List UInt8), unhexA acc h = some b → ∃ b', b = acc ++ b' ∧ hexL b' = h
  | [], acc, b => by
    intro e
    rw [unhexA] at e
    cases e
    exact ⟨[], by simp, rfl⟩
  | [_], acc, b => by simp [unhexA]
  | x :: y :: r, acc, b => by
    intro e
    rw [unhexA] at e
    cases hx : place hexT x with
    | none => rw [hx] at e; simp at e
    | some n =>
      cases hy : place hexT y with
      | none => rw [hx, hy] at e; simp at e
      | some m =>
        rw [hx, hy] at e
        obtain ⟨b', rfl, hb⟩ := hexL_unhexA r _ b e
        have hn : n < 16 := place_lt _ _ _ hx
        have hm : m < 16 := place_lt _ _ _ hy
        refine ⟨UInt8.ofNat (16 * n + m) :: b', by simp, ?_⟩
        rw [hexL_cons, hb, UInt8.toNat_ofNat', show (16 * n + m) % 2 ^ 8 / 16 = n by omega, show (16 * n + m) % 2 ^ 8 % 16 = m by omega]
        rw [show hexd n = x from place_get _ _ _ hx, show hexd m = y from place_get _ _ _ hy]

theorem law_A (s : List UInt8) : unhexL (hexL s) = some s := by rw [unhexL, unhexA_hexL]; rfl
theorem law_B (h b : List UInt8) (e : unhexL h = some b) : hexL b = h ∧ b.length ≤ h.length := by
  obtain ⟨b', rfl, hb⟩ := hexL_unhexA _ _ _ e
  refine ⟨hb, ?_⟩
  rw [← hb, hexL_length]
  omega

/-- The lowest n bits, the highest first. -/
def low (b : Word) (n : Nat) : List Bool := (List.range n).map fun i => b.getLsbD (n - 1 - i)
theorem low_length (b : Word) (n : Nat) : (low b n).length = n := by simp [low]
theorem low_get (b : Word) (n i : Nat) (h : i < (low b n).length) : (low b n)[i] = b.getLsbD (n - 1 - i) := by simp [low]

theorem low_split (b : Word) (m k : Nat) : low b (m + k) = low (wr b k) m ++ low b k := by
  apply List.ext_getElem
  · simp [low_length]
  · intro i h1 h2
    rw [low_length] at h1
    rw [low_get]
    by_cases hi : i < m
    · rw [List.getElem_append_left (by rw [low_length]; exact hi), low_get]
      unfold wr
      rw [BitVec.getLsbD_ushiftRight]
      congr 1
      omega
    · rw [List.getElem_append_right (by rw [low_length]; omega), low_get, low_length]
      congr 1
      omega

theorem low_push (b x : Word) (n k : Nat) (hx : ∀ i, k ≤ i → x.getLsbD i = false) (h : n + k ≤ 32) : low (wo (wl b k) x) (n + k) = low b n ++ low x k := by
  rw [low_split]
  congr 1
  · apply List.ext_getElem
    · simp [low_length]
    · intro i h1 h2
      rw [low_length] at h1
      rw [low_get, low_get]
      unfold wr wo wl
      rw [BitVec.getLsbD_ushiftRight, BitVec.getLsbD_or, BitVec.getLsbD_shiftLeft, hx _ (by omega)]
      simp only [Bool.or_false]
      rw [show decide (k + (n - 1 - i) < 32) = true by simp; omega, show decide (k + (n - 1 - i) < k) = false by simp]
      simp
  · apply List.ext_getElem
    · simp [low_length]
    · intro i h1 h2
      rw [low_length] at h1
      rw [low_get, low_get]
      unfold wo wl
      rw [BitVec.getLsbD_or, BitVec.getLsbD_shiftLeft, show decide (k - 1 - i < k) = true by simp; omega]
      simp

theorem low_zeros (b : Word) (n k : Nat) (h : n + k ≤ 32) : low (wl b k) (n + k) = low b n ++ List.replicate k false := by
  have := low_push b 0 n k (by simp) h
  rw [show wo (wl b k) 0 = wl b k by unfold wo; simp] at this
  rw [this]
  congr 1
  apply List.ext_getElem
  · simp [low_length]
  · intro i h1 h2
    rw [low_get]; simp

def bits8 (c : UInt8) : List Bool := low (w8 c) 8
def cbits (c : UInt8) : List Bool := low (BitVec.ofNat 32 ((place b32T c).getD 0)) 5

theorem place_b32 (n : Nat) (h : n < 32) : place b32T (b32T.getD n 0) = some n := by
  have : ∀ d : Fin 32, place b32T (b32T.getD d.val 0) = some d.val := by decide
  exact this ⟨n, h⟩
theorem wa31' (x : Word) : (wa x 31#32).toNat < 32 := by
  unfold wa
  rw [BitVec.toNat_and]
  exact Nat.lt_of_le_of_lt Nat.and_le_right (by decide)
theorem place_dig (b : Word) : place b32T (dig b) = some (wa b 31#32).toNat := place_b32 _ (wa31' b)
theorem cbits_dig (b : Word) : cbits (dig b) = low b 5 := by
  unfold cbits
  rw [place_dig]
  show low (BitVec.ofNat 32 (wa b 31#32).toNat) 5 = _
  rw [BitVec.ofNat_toNat, BitVec.setWidth_eq]
  apply List.ext_getElem
  · simp [low_length]
  · intro i h1 h2
    rw [low_length] at h1
    rw [low_get, low_get]
    unfold wa
    rw [BitVec.getLsbD_and]
    rcases (show i = 0 ∨ i = 1 ∨ i = 2 ∨ i = 3 ∨ i = 4 by omega) with e | e | e | e | e <;> subst e <;> simp

theorem flush_bits (b : Word) : ∀ (n : Nat), (flush b n).flatMap cbits ++ low b (n % 5) = low b n := by
  intro n
  induction n using Nat.strongRecOn with
  | _ n ih =>
    by_cases h : n < 5
    · rw [flush_lt h, Nat.mod_eq_of_lt h]; rfl
    · rw [flush_ge (by omega), List.flatMap_cons, cbits_dig, List.append_assoc, show n % 5 = (n - 5) % 5 by omega, ih (n - 5) (by omega)]
      conv => rhs; rw [show n = 5 + (n - 5) by omega, low_split]
theorem flush_all (b : Word) : ∀ (n : Nat), ∀ c ∈ flush b n, (place b32T c).isSome = true := by
  intro n
  induction n using Nat.strongRecOn with
  | _ n ih =>
    by_cases h : n < 5
    · rw [flush_lt h]; simp
    · rw [flush_ge (by omega)]
      intro c hc
      rcases List.mem_cons.1 hc with rfl | hc
      · rw [place_dig]; rfl
      · exact ih _ (by omega) c hc

theorem w8_high (c : UInt8) : ∀ i, 8 ≤ i → (w8 c).getLsbD i = false := by
  intro i hi
  unfold w8
  rw [BitVec.getLsbD_setWidth]
  have : c.toBitVec.getLsbD i = false := BitVec.getLsbD_of_ge _ _ hi
  rw [this, Bool.and_false]

/-- What the state says of the bytes that were read. -/
def Bok (st : Bst) (s : List UInt8) : Prop := st.n < 5 ∧ st.l.flatMap cbits ++ low st.b st.n = s.flatMap bits8 ∧ ∀ c ∈ st.l, (place b32T c).isSome = true
theorem Bok.next {st : Bst} {s : List UInt8} (h : Bok st s) (c : UInt8) : Bok (bstep st c) (s ++ [c]) := by
  obtain ⟨hn, hb, ha⟩ := h
  refine ⟨Nat.mod_lt _ (by omega), ?_, ?_⟩
  · show (st.l ++ flush (wo (wl st.b 8) (w8 c)) (st.n + 8)).flatMap cbits ++ low (wo (wl st.b 8) (w8 c)) ((st.n + 8) % 5) = _
    rw [List.flatMap_append, List.append_assoc, flush_bits, low_push _ _ _ _ (w8_high c) (by omega), ← List.append_assoc, hb, List.flatMap_append]
    simp [bits8]
  · intro d hd
    rcases List.mem_append.1 hd with hd | hd
    · exact ha d hd
    · exact flush_all _ _ d hd
theorem bok_fold : ∀ (r s : List UInt8) (st : Bst), Bok st s → Bok (r.foldl bstep st) (s ++ r)
  | [], s, st, h => by simpa using h
  | c :: r, s, st, h => by
    have := bok_fold r (s ++ [c]) _ (h.next c)
    simpa using this
theorem bok_run (s : List UInt8) : Bok (brun s) s := by
  have := bok_fold s [] ⟨[], 0, 0⟩ ⟨by simp, by simp [low], by simp⟩
  rw [List.nil_append] at this
  exact this

theorem b32_bits (s : List UInt8) : (∃ z, z < 5 ∧ (b32L s).flatMap cbits = s.flatMap bits8 ++ List.replicate z false) ∧ ∀ c ∈ b32L s, (place b32T c).isSome = true := by
  obtain ⟨hn, hb, ha⟩ := bok_run s
  unfold b32L
  split
  · rename_i h0
    refine ⟨⟨0, by omega, ?_⟩, ha⟩
    rw [h0] at hb
    simpa [low] using hb
  · refine ⟨⟨5 - (brun s).n, by omega, ?_⟩, ?_⟩
    · have := low_zeros (brun s).b (brun s).n (5 - (brun s).n) (by omega)
      rw [show (brun s).n + (5 - (brun s).n) = 5 by omega] at this
      rw [List.flatMap_append]
      simp only [List.flatMap_cons, List.flatMap_nil, List.append_nil]
      rw [cbits_dig, this, ← List.append_assoc, hb]
    · intro c hc
      rcases List.mem_append.1 hc with hc | hc
      · exact ha c hc
      · rw [List.mem_singleton.1 hc, place_dig]; rfl

theorem flat_length {α : Type} (f : α → List Bool) (k : Nat) (hf : ∀ a, (f a).length = k) : ∀ l : List α, (l.flatMap f).length = k * l.length
  | [] => by simp
  | a :: l => by rw [List.flatMap_cons, List.length_append, hf, flat_length f k hf l, List.length_cons, Nat.mul_succ]; omega
theorem cbits_length (c : UInt8) : (cbits c).length = 5 := low_length _ _
theorem bits8_length (c : UInt8) : (bits8 c).length = 8 := low_length _ _

theorem law_C (s : List UInt8) : (b32L s).length = (8 * s.length + 4) / 5 := by
  obtain ⟨⟨z, hz, h⟩, _⟩ := b32_bits s
  have := congrArg List.length h
  rw [flat_length cbits 5 cbits_length, List.length_append, flat_length bits8 8 bits8_length, List.length_replicate] at this
  omega

theorem bits8_inj {a b : UInt8} (h : bits8 a = bits8 b) : a = b := by
  apply UInt8.eq_of_toBitVec_eq
  apply BitVec.eq_of_getLsbD_eq
  intro i hi
  have h1 : (bits8 a)[7 - i]'(by rw [bits8_length]; omega) = (bits8 b)[7 - i]'(by rw [bits8_length]; omega) := by simp only [h]
  unfold bits8 at h1
  rw [low_get, low_get] at h1
  unfold w8 at h1
  rw [BitVec.getLsbD_setWidth, BitVec.getLsbD_setWidth, show 8 - 1 - (7 - i) = i by omega] at h1
  simpa [show i < 32 by omega] using h1
theorem flat8_inj : ∀ (a b : List UInt8), a.flatMap bits8 = b.flatMap bits8 → a = b
  | [], [], _ => rfl
  | [], y :: b, h => by have := congrArg List.length h; simp [bits8_length] at this; try omega
  | x :: a, [], h => by have := congrArg List.length h; simp [bits8_length] at this; try omega
  | x :: a, y :: b, h => by
    rw [List.flatMap_cons, List.flatMap_cons] at h
    obtain ⟨h1, h2⟩ := List.append_inj h (by rw [bits8_length, bits8_length])
    rw [bits8_inj h1, flat8_inj a b h2]

theorem bits8_lo (b : Word) : bits8 (lo b) = low b 8 := by
  show low (w8 (lo b)) 8 = low b 8
  apply List.ext_getElem
  · simp [low_length]
  · intro i h1 h2
    rw [low_length] at h2
    rw [low_get, low_get]
    unfold w8 lo
    rw [BitVec.getLsbD_setWidth]
    show (_ && (b.setWidth 8).getLsbD _) = _
    rw [BitVec.getLsbD_setWidth]
    simp [show 8 - 1 - i < 32 by omega, show 8 - 1 - i < 8 by omega]

theorem ofNat_high (v : Nat) (h : v < 32) : ∀ i, 5 ≤ i → (BitVec.ofNat 32 v).getLsbD i = false := by
  intro i hi
  rw [BitVec.getLsbD_ofNat]
  rw [Nat.testBit_lt_two_pow (Nat.lt_of_lt_of_le h (by exact Nat.pow_le_pow_right (n := 2) (by decide) hi))]
  simp

/-- The bits that a state holds. -/
def Ubits (st : Ust) : List Bool := st.l.flatMap bits8 ++ low st.b st.n
theorem ubits_step (st : Ust) (v : Nat) (hv : v < 32) (hn : st.n < 8) : (ustep st v).n < 8 ∧ Ubits (ustep st v) = Ubits st ++ low (BitVec.ofNat 32 v) 5 := by
  have hp := low_push st.b (BitVec.ofNat 32 v) st.n 5 (ofNat_high v hv) (by omega)
  unfold ustep
  split
  · refine ⟨by assumption, ?_⟩
    unfold Ubits
    rw [List.append_assoc, ← hp]
  · refine ⟨by show st.n + 5 - 8 < 8; omega, ?_⟩
    unfold Ubits
    show (st.l ++ [_]).flatMap bits8 ++ low _ (st.n + 5 - 8) = _
    rw [List.append_assoc, ← hp, List.flatMap_append]
    simp only [List.flatMap_cons, List.flatMap_nil, List.append_nil]
    rw [bits8_lo, List.append_assoc]
    congr 1
    conv => rhs; rw [show st.n + 5 = 8 + (st.n + 5 - 8) by omega, low_split]

theorem udec_bits : ∀ (y : List UInt8) (st : Ust), st.n < 8 → (∀ c ∈ y, (place b32T c).isSome = true) → ∃ l r, udec st y = some l ∧ r.length < 8 ∧ l.flatMap bits8 ++ r = Ubits st ++ y.flatMap cbits
  | [], st, hn, _ => ⟨st.l, low st.b st.n, rfl, by rw [low_length]; exact hn, by simp [Ubits]⟩
  | c :: y, st, hn, ha => by
    obtain ⟨v, hv⟩ := Option.isSome_iff_exists.1 (ha c (List.mem_cons_self ..))
    have hv32 : v < 32 := place_lt _ _ _ hv
    obtain ⟨h1, h2⟩ := ubits_step st v hv32 hn
    obtain ⟨l, r, e, hr, hl⟩ := udec_bits y (ustep st v) h1 fun d hd => ha d (List.mem_cons_of_mem _ hd)
    refine ⟨l, r, by rw [udec, hv]; exact e, hr, ?_⟩
    rw [hl, h2, List.flatMap_cons, List.append_assoc]
    congr 2
    unfold cbits
    rw [hv]
    rfl

theorem law_D (s : List UInt8) : unb32L (b32L s) = some s := by
  obtain ⟨⟨z, hz, h⟩, ha⟩ := b32_bits s
  obtain ⟨l, r, e, hr, hl⟩ := udec_bits (b32L s) ⟨[], 0, 0⟩ (by simp) ha
  rw [h] at hl
  have hl' : l.flatMap bits8 ++ r = s.flatMap bits8 ++ List.replicate z false := by simpa [Ubits, low] using hl
  have hlen := congrArg List.length hl'
  rw [List.length_append, List.length_append, flat_length bits8 8 bits8_length, flat_length bits8 8 bits8_length, List.length_replicate] at hlen
  have hls : l = s := flat8_inj _ _ (List.append_inj hl' (by rw [flat_length bits8 8 bits8_length, flat_length bits8 8 bits8_length]; omega)).1
  subst hls
  rw [unb32L, e]
  exact if_pos rfl

theorem law_E (h d : List UInt8) (e : unb32L h = some d) : b32L d = h ∧ d.length ≤ h.length := by
  unfold unb32L at e
  split at e
  · exact absurd e (by simp)
  · split at e
    · rename_i hq
      cases e
      refine ⟨hq, ?_⟩
      have := law_C d
      rw [hq] at this
      omega
    · exact absurd e (by simp)

end Dg

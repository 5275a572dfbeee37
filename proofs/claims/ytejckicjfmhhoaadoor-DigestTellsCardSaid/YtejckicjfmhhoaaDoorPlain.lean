/- Words of 32 bits and the digest over them: plain Lean, no program in sight. -/
namespace Dg

abbrev Word := BitVec 32

/-- A word's number. -/
def wn (b : Word) : Int := b.toNat
def wx (a b : Word) : Word := a ^^^ b
def wa (a b : Word) : Word := a &&& b
def wo (a b : Word) : Word := a ||| b
def wp (a b : Word) : Word := a + b
def wl (a : Word) (k : Nat) : Word := a <<< k
def wr (a : Word) (k : Nat) : Word := a >>> k
def wc (a : Word) : Word := ~~~a
/-- A byte as a word. -/
def w8 (c : UInt8) : Word := c.toBitVec.setWidth 32
/-- The lowest byte of a word. -/
def lo (b : Word) : UInt8 := UInt8.ofBitVec (b.setWidth 8)

def ror (b : Word) (r : Nat) : Word := wo (wl b (32 - r)) (wr b r)
def s0 (x : Word) : Word := wx (wx (ror x 7) (ror x 18)) (wr x 3)
def s1 (y : Word) : Word := wx (wx (ror y 17) (ror y 19)) (wr y 10)
def S1 (e : Word) : Word := wx (wx (ror e 6) (ror e 11)) (ror e 25)
def S0 (a : Word) : Word := wx (wx (ror a 2) (ror a 13)) (ror a 22)
def ch (e f g : Word) : Word := wx (wa e f) (wa (wc e) g)
def maj (a b c : Word) : Word := wx (wx (wa a b) (wa a c)) (wa b c)

def K : List Word := [1116352408, 1899447441, 3049323471, 3921009573, 961987163, 1508970993, 2453635748, 2870763221, 3624381080, 310598401, 607225278, 1426881987, 1925078388, 2162078206, 2614888103, 3248222580, 3835390401, 4022224774, 264347078, 604807628, 770255983, 1249150122, 1555081692, 1996064986, 2554220882, 2821834349, 2952996808, 3210313671, 3336571891, 3584528711, 113926993, 338241895, 666307205, 773529912, 1294757372, 1396182291, 1695183700, 1986661051, 2177026350, 2456956037, 2730485921, 2820302411, 3259730800, 3345764771, 3516065817, 3600352804, 4094571909, 275423344, 430227734, 506948616, 659060556, 883997877, 958139571, 1322822218, 1537002063, 1747873779, 1955562222, 2024104815, 2227730452, 2361852424, 2428436474, 2756734187, 3204031479, 3329325298]

/-- Bytes, the first one highest, as a word. -/
def be (bs : List UInt8) : Word := bs.foldl (fun w c => wo (wl w 8) (w8 c)) 0

def words (blk : List UInt8) : Nat → List Word
  | 0 => []
  | n + 1 => words blk n ++ [be ((blk.drop (4 * n)).take 4)]

/-- One more word of the schedule. -/
def ext (ws : List Word) : List Word :=
  ws ++ [wp (wp (wp (ws.getD (ws.length - 16) 0) (s0 (ws.getD (ws.length - 15) 0))) (ws.getD (ws.length - 7) 0)) (s1 (ws.getD (ws.length - 2) 0))]

def iter {α : Type} (f : α → α) : Nat → α → α
  | 0, a => a
  | n + 1, a => f (iter f n a)

def sched (blk : List UInt8) (n : Nat) : List Word := iter ext n (words blk 16)

structure St where
  (a b c d e f g h : Word)

def round (s : St) (k w : Word) : St :=
  let t := wp (wp s.h (S1 s.e)) (wp (wp (ch s.e s.f s.g) k) w)
  let u := wp (S0 s.a) (maj s.a s.b s.c)
  ⟨wp t u, s.a, s.b, s.c, wp s.d t, s.e, s.f, s.g⟩

def rounds (s : St) (ws : List Word) : Nat → St
  | 0 => s
  | n + 1 => round (rounds s ws n) (K.getD n 0) (ws.getD n 0)

def St.add (s z : St) : St := ⟨wp s.a z.a, wp s.b z.b, wp s.c z.c, wp s.d z.d, wp s.e z.e, wp s.f z.f, wp s.g z.g, wp s.h z.h⟩
def St.list (s : St) : List Word := [s.a, s.b, s.c, s.d, s.e, s.f, s.g, s.h]

/-- The state after one block of 64 bytes. -/
def block (s : St) (blk : List UInt8) : St := s.add (rounds s (sched blk 48) 64)

def blocks : Nat → St → List UInt8 → St
  | 0, s, _ => s
  | n + 1, s, bs => blocks n (block s (bs.take 64)) (bs.drop 64)

def init : St := ⟨0x6a09e667, 0xbb67ae85, 0x3c6ef372, 0xa54ff53a, 0x510e527f, 0x9b05688c, 0x1f83d9ab, 0x5be0cd19⟩

/-- The eight bytes of a number, the highest first. -/
def size8 (n : Nat) : List UInt8 := [UInt8.ofNat (n >>> 56), UInt8.ofNat (n >>> 48), UInt8.ofNat (n >>> 40), UInt8.ofNat (n >>> 32), UInt8.ofNat (n >>> 24), UInt8.ofNat (n >>> 16), UInt8.ofNat (n >>> 8), UInt8.ofNat n]

def pad (s : List UInt8) : List UInt8 := s ++ 128 :: (List.replicate ((119 - s.length % 64) % 64) 0 ++ size8 (8 * s.length))

def bytes4 (b : Word) : List UInt8 := [lo (wr b 24), lo (wr b 16), lo (wr b 8), lo b]

def sumL (s : List UInt8) : List UInt8 := (blocks ((pad s).length / 64) init (pad s)).list.flatMap bytes4

end Dg

/-
  SHA-256, plainly, over lists of bytes, and by it macs, links and chains; no program is in sight.
-/
namespace Go.Proofs.Ytmmkopdijmplcaa.Sha
abbrev W := BitVec 32
structure St where
  a : W
  b : W
  c : W
  d : W
  e : W
  f : W
  g : W
  h : W
deriving DecidableEq
def ror (x : W) (n : Nat) : W := x >>> n ||| x <<< (32 - n)
def sg0 (x : W) : W := ror x 7 ^^^ ror x 18 ^^^ x >>> 3
def sg1 (x : W) : W := ror x 17 ^^^ ror x 19 ^^^ x >>> 10
def bg0 (x : W) : W := ror x 2 ^^^ ror x 13 ^^^ ror x 22
def bg1 (x : W) : W := ror x 6 ^^^ ror x 11 ^^^ ror x 25
def ch (e f g : W) : W := e &&& f ^^^ ~~~ e &&& g
def mj (a b c : W) : W := a &&& b ^^^ a &&& c ^^^ b &&& c
/-- one round, by a number k and a word w -/
def rnd (s : St) (k w : W) : St :=
  let t := s.h + bg1 s.e + ch s.e s.f s.g + k + w
  let u := bg0 s.a + mj s.a s.b s.c
  ⟨t + u, s.a, s.b, s.c, s.d + t, s.e, s.f, s.g⟩
def add (s t : St) : St := ⟨s.a + t.a, s.b + t.b, s.c + t.c, s.d + t.d, s.e + t.e, s.f + t.f, s.g + t.g, s.h + t.h⟩
/-- the numbers K -/
def keyL : List W := [
    0x428a2f98#32, 0x71374491#32, 0xb5c0fbcf#32, 0xe9b5dba5#32, 0x3956c25b#32, 0x59f111f1#32, 0x923f82a4#32, 0xab1c5ed5#32,
    0xd807aa98#32, 0x12835b01#32, 0x243185be#32, 0x550c7dc3#32, 0x72be5d74#32, 0x80deb1fe#32, 0x9bdc06a7#32, 0xc19bf174#32,
    0xe49b69c1#32, 0xefbe4786#32, 0x0fc19dc6#32, 0x240ca1cc#32, 0x2de92c6f#32, 0x4a7484aa#32, 0x5cb0a9dc#32, 0x76f988da#32,
    0x983e5152#32, 0xa831c66d#32, 0xb00327c8#32, 0xbf597fc7#32, 0xc6e00bf3#32, 0xd5a79147#32, 0x06ca6351#32, 0x14292967#32,
    0x27b70a85#32, 0x2e1b2138#32, 0x4d2c6dfc#32, 0x53380d13#32, 0x650a7354#32, 0x766a0abb#32, 0x81c2c92e#32, 0x92722c85#32,
    0xa2bfe8a1#32, 0xa81a664b#32, 0xc24b8b70#32, 0xc76c51a3#32, 0xd192e819#32, 0xd6990624#32, 0xf40e3585#32, 0x106aa070#32,
    0x19a4c116#32, 0x1e376c08#32, 0x2748774c#32, 0x34b0bcb5#32, 0x391c0cb3#32, 0x4ed8aa4a#32, 0x5b9cca4f#32, 0x682e6ff3#32,
    0x748f82ee#32, 0x78a5636f#32, 0x84c87814#32, 0x8cc70208#32, 0x90befffa#32, 0xa4506ceb#32, 0xbef9a3f7#32, 0xc67178f2#32]
def iv : St := ⟨0x6a09e667#32, 0xbb67ae85#32, 0x3c6ef372#32, 0xa54ff53a#32, 0x510e527f#32, 0x9b05688c#32, 0x1f83d9ab#32, 0x5be0cd19#32⟩
/-- four bytes as a word, the highest first -/
def be4 (l : List UInt8) : W := (l.take 4).foldl (fun n c => n <<< 8 ||| c.toBitVec.setWidth 32) 0#32
/-- the next word, of those ahead of it, the last one first -/
def wstep (blk : List UInt8) (i : Nat) (l : List W) : W := if i < 16 then be4 (blk.drop (4 * i)) else l.getD 15 0#32 + sg0 (l.getD 14 0#32) + l.getD 6 0#32 + sg1 (l.getD 1 0#32)
def wcons (blk : List UInt8) (i : Nat) (l : List W) : List W := wstep blk i l :: l
/-- the words of a block, the last one first -/
def wl (blk : List UInt8) : Nat → List W
  | 0 => []
  | i + 1 => wcons blk i (wl blk i)
/-- word i -/
def wv (blk : List UInt8) (i : Nat) : W := (wl blk (i + 1)).headD 0#32
def key (i : Nat) : W := keyL.getD i 0#32
/-- the state after i rounds, with words in a row -/
def rounds (s : St) : List W → List W → St
  | k :: ks, w :: ws => rounds (rnd s k w) ks ws
  | _, _ => s
/-- the state behind a block -/
def next (s : St) (blk : List UInt8) : St := add (rounds s keyL (wl blk 64).reverse) s
/-- the state behind the first k blocks -/
def run : Nat → List UInt8 → St
  | 0, _ => iv
  | k + 1, l => next (run k l) ((l.drop (64 * k)).take 64)
def w4 (x : W) : List UInt8 := [UInt8.ofBitVec (x >>> 24 |>.setWidth 8), UInt8.ofBitVec (x >>> 16 |>.setWidth 8), UInt8.ofBitVec (x >>> 8 |>.setWidth 8), UInt8.ofBitVec (x.setWidth 8)]
def out (s : St) : List UInt8 := w4 s.a ++ w4 s.b ++ w4 s.c ++ w4 s.d ++ w4 s.e ++ w4 s.f ++ w4 s.g ++ w4 s.h
/-- a number's eight bytes, the highest first -/
def be8 (n : Nat) : List UInt8 := (List.range 8).map fun i => UInt8.ofNat (n / 256 ^ (7 - i) % 256)
/-- how many bytes 0 stand behind the byte 128 -/
def noughts (n : Nat) : Nat := (119 - n % 64) % 64
def pad (n : Nat) : List UInt8 := 128 :: (List.replicate (noughts n) 0 ++ be8 (8 * n))
def sha (l : List UInt8) : List UInt8 := out (run ((l.length + (pad l.length).length) / 64) (l ++ pad l.length))
def kpad (key : List UInt8) (x : UInt8) : List UInt8 := (List.range 64).map fun i => (key.getD i 0) ^^^ x
def mac (key s : List UInt8) : List UInt8 :=
  let k := if key.length ≤ 64 then key else sha key
  sha (kpad k 92 ++ sha (kpad k 54 ++ s))
def link (l r : List UInt8) : List UInt8 := sha (l ++ be8 r.length ++ r)
def chain (l : List UInt8) (rs : List (List UInt8)) : List UInt8 := rs.foldl link l
theorem abc : sha [97, 98, 99] = [0xba, 0x78, 0x16, 0xbf, 0x8f, 0x01, 0xcf, 0xea, 0x41, 0x41, 0x40, 0xde, 0x5d, 0xae, 0x22, 0x23, 0xb0, 0x03, 0x61, 0xa3, 0x96, 0x17, 0x7a, 0x9c, 0xb4, 0x10, 0xff, 0x61, 0xf2, 0x00, 0x15, 0xad] := by decide +kernel
end Go.Proofs.Ytmmkopdijmplcaa.Sha

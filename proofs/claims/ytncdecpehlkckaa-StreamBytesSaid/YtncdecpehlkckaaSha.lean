/-
The sum of bytes of chapter 7 (SHA-256), as plain functions on lists of bytes and words. No condition.
-/
namespace Lg

/-- a word, turned down by n -/
def tdn (x : UInt32) (n : UInt32) : UInt32 := x >>> n ||| x <<< (32 - n)

def shaK : List UInt32 := [
  0x428a2f98, 0x71374491, 0xb5c0fbcf, 0xe9b5dba5, 0x3956c25b, 0x59f111f1, 0x923f82a4, 0xab1c5ed5,
  0xd807aa98, 0x12835b01, 0x243185be, 0x550c7dc3, 0x72be5d74, 0x80deb1fe, 0x9bdc06a7, 0xc19bf174,
  0xe49b69c1, 0xefbe4786, 0x0fc19dc6, 0x240ca1cc, 0x2de92c6f, 0x4a7484aa, 0x5cb0a9dc, 0x76f988da,
  0x983e5152, 0xa831c66d, 0xb00327c8, 0xbf597fc7, 0xc6e00bf3, 0xd5a79147, 0x06ca6351, 0x14292967,
  0x27b70a85, 0x2e1b2138, 0x4d2c6dfc, 0x53380d13, 0x650a7354, 0x766a0abb, 0x81c2c92e, 0x92722c85,
  0xa2bfe8a1, 0xa81a664b, 0xc24b8b70, 0xc76c51a3, 0xd192e819, 0xd6990624, 0xf40e3585, 0x106aa070,
  0x19a4c116, 0x1e376c08, 0x2748774c, 0x34b0bcb5, 0x391c0cb3, 0x4ed8aa4a, 0x5b9cca4f, 0x682e6ff3,
  0x748f82ee, 0x78a5636f, 0x84c87814, 0x8cc70208, 0x90befffa, 0xa4506ceb, 0xbef9a3f7, 0xc67178f2]

def shaH : List UInt32 := [0x6a09e667, 0xbb67ae85, 0x3c6ef372, 0xa54ff53a, 0x510e527f, 0x9b05688c, 0x1f83d9ab, 0x5be0cd19]

def w4 (a b c d : UInt8) : UInt32 := a.toUInt32 <<< 24 ||| b.toUInt32 <<< 16 ||| c.toUInt32 <<< 8 ||| d.toUInt32

/-- the i-th word of bytes -/
def wordAt (p : List UInt8) (i : Nat) : UInt32 := w4 (p.getD (4 * i) 0) (p.getD (4 * i + 1) 0) (p.getD (4 * i + 2) 0) (p.getD (4 * i + 3) 0)

def ssig0 (x : UInt32) : UInt32 := tdn x 7 ^^^ tdn x 18 ^^^ x >>> 3
def ssig1 (x : UInt32) : UInt32 := tdn x 17 ^^^ tdn x 19 ^^^ x >>> 10
def bsig0 (x : UInt32) : UInt32 := tdn x 2 ^^^ tdn x 13 ^^^ tdn x 22
def bsig1 (x : UInt32) : UInt32 := tdn x 6 ^^^ tdn x 11 ^^^ tdn x 25

/-- the next word of the rounds of a block -/
def shaNext (p : List UInt8) (w : List UInt32) : UInt32 :=
  let i := w.length
  if i < 16 then wordAt p i
  else w.getD (i - 16) 0 + w.getD (i - 7) 0 + ssig0 (w.getD (i - 15) 0) + ssig1 (w.getD (i - 2) 0)

/-- the first n words -/
def shaW (p : List UInt8) : Nat → List UInt32
  | 0 => []
  | n + 1 => shaW p n ++ [shaNext p (shaW p n)]

theorem shaW_length (p : List UInt8) (n : Nat) : (shaW p n).length = n := by
  induction n with
  | zero => rfl
  | succ n ih => simp [shaW, ih]

structure S8 where
  a : UInt32
  b : UInt32
  c : UInt32
  d : UInt32
  e : UInt32
  f : UInt32
  g : UInt32
  h : UInt32
  deriving DecidableEq

def S8.list (s : S8) : List UInt32 := [s.a, s.b, s.c, s.d, s.e, s.f, s.g, s.h]

def S8.step (t : S8) (k w : UInt32) : S8 :=
  let x := t.h + bsig1 t.e + (t.e &&& t.f ^^^ ~~~t.e &&& t.g) + k + w
  let y := bsig0 t.a + (t.a &&& t.b ^^^ t.a &&& t.c ^^^ t.b &&& t.c)
  ⟨x + y, t.a, t.b, t.c, t.d + x, t.e, t.f, t.g⟩

/-- n rounds -/
def S8.rounds (t : S8) (w : List UInt32) : Nat → S8
  | 0 => t
  | n + 1 => (t.rounds w n).step (shaK.getD n 0) (w.getD n 0)

def S8.add (s t : S8) : S8 := ⟨s.a + t.a, s.b + t.b, s.c + t.c, s.d + t.d, s.e + t.e, s.f + t.f, s.g + t.g, s.h + t.h⟩

/-- a block more -/
def S8.block (s : S8) (p : List UInt8) : S8 := s.add (s.rounds (shaW p 64) 64)

def S8.first : S8 := ⟨0x6a09e667, 0xbb67ae85, 0x3c6ef372, 0xa54ff53a, 0x510e527f, 0x9b05688c, 0x1f83d9ab, 0x5be0cd19⟩

/-- eight bytes that write a number -/
def be64 (n : Nat) : List UInt8 := [56, 48, 40, 32, 24, 16, 8, 0].map fun s => UInt8.ofNat (n >>> s)

def be32 (x : UInt32) : List UInt8 := [(x >>> 24).toUInt8, (x >>> 16).toUInt8, (x >>> 8).toUInt8, x.toUInt8]

/-- bytes, filled up to whole blocks -/
def shaPad (b : List UInt8) : List UInt8 := b ++ 128 :: List.replicate ((119 - b.length % 64) % 64) 0 ++ be64 (8 * b.length)

/-- the state behind n blocks -/
def shaSt (m : List UInt8) : Nat → S8
  | 0 => .first
  | n + 1 => (shaSt m n).block ((m.drop (64 * n)).take 64)

def sha (b : List UInt8) : List UInt8 :=
  let m := shaPad b
  (shaSt m (m.length / 64)).list.flatMap be32

theorem be64_length (n : Nat) : (be64 n).length = 8 := rfl
theorem be32_length (x : UInt32) : (be32 x).length = 4 := rfl
theorem sha_length (b : List UInt8) : (sha b).length = 32 := rfl

theorem shaPad_length (b : List UInt8) : (shaPad b).length % 64 = 0 := by
  simp [shaPad, be64_length]
  omega

example : (sha []).take 4 = [0xe3, 0xb0, 0xc4, 0x42] := by decide +kernel
example : (sha [0]).take 4 = [0x6e, 0x34, 0x0b, 0x9c] := by decide +kernel
end Lg

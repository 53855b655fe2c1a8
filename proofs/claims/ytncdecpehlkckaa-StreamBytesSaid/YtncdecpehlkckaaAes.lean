/-
The cipher of chapter 5 (AES), as plain functions on lists of bytes: round keys, a block there and back, and that back is back. No condition.
-/
import Derived.Test.YtncdecpehlkckaaFld
namespace Lg

def sboxT : List UInt8 := [
  99, 124, 119, 123, 242, 107, 111, 197, 48, 1, 103, 43, 254, 215, 171, 118, 202, 130, 201, 125, 250, 89, 71, 240, 173, 212, 162, 175, 156, 164, 114, 192,
  183, 253, 147, 38, 54, 63, 247, 204, 52, 165, 229, 241, 113, 216, 49, 21, 4, 199, 35, 195, 24, 150, 5, 154, 7, 18, 128, 226, 235, 39, 178, 117,
  9, 131, 44, 26, 27, 110, 90, 160, 82, 59, 214, 179, 41, 227, 47, 132, 83, 209, 0, 237, 32, 252, 177, 91, 106, 203, 190, 57, 74, 76, 88, 207,
  208, 239, 170, 251, 67, 77, 51, 133, 69, 249, 2, 127, 80, 60, 159, 168, 81, 163, 64, 143, 146, 157, 56, 245, 188, 182, 218, 33, 16, 255, 243, 210,
  205, 12, 19, 236, 95, 151, 68, 23, 196, 167, 126, 61, 100, 93, 25, 115, 96, 129, 79, 220, 34, 42, 144, 136, 70, 238, 184, 20, 222, 94, 11, 219,
  224, 50, 58, 10, 73, 6, 36, 92, 194, 211, 172, 98, 145, 149, 228, 121, 231, 200, 55, 109, 141, 213, 78, 169, 108, 86, 244, 234, 101, 122, 174, 8,
  186, 120, 37, 46, 28, 166, 180, 198, 232, 221, 116, 31, 75, 189, 139, 138, 112, 62, 181, 102, 72, 3, 246, 14, 97, 53, 87, 185, 134, 193, 29, 158,
  225, 248, 152, 17, 105, 217, 142, 148, 155, 30, 135, 233, 206, 85, 40, 223, 140, 161, 137, 13, 191, 230, 66, 104, 65, 153, 45, 15, 176, 84, 187, 22]

def isboxT : List UInt8 := [
  82, 9, 106, 213, 48, 54, 165, 56, 191, 64, 163, 158, 129, 243, 215, 251, 124, 227, 57, 130, 155, 47, 255, 135, 52, 142, 67, 68, 196, 222, 233, 203,
  84, 123, 148, 50, 166, 194, 35, 61, 238, 76, 149, 11, 66, 250, 195, 78, 8, 46, 161, 102, 40, 217, 36, 178, 118, 91, 162, 73, 109, 139, 209, 37,
  114, 248, 246, 100, 134, 104, 152, 22, 212, 164, 92, 204, 93, 101, 182, 146, 108, 112, 72, 80, 253, 237, 185, 218, 94, 21, 70, 87, 167, 141, 157, 132,
  144, 216, 171, 0, 140, 188, 211, 10, 247, 228, 88, 5, 184, 179, 69, 6, 208, 44, 30, 143, 202, 63, 15, 2, 193, 175, 189, 3, 1, 19, 138, 107,
  58, 145, 17, 65, 79, 103, 220, 234, 151, 242, 207, 206, 240, 180, 230, 115, 150, 172, 116, 34, 231, 173, 53, 133, 226, 249, 55, 232, 28, 117, 223, 110,
  71, 241, 26, 113, 29, 41, 197, 137, 111, 183, 98, 14, 170, 24, 190, 27, 252, 86, 62, 75, 198, 210, 121, 32, 154, 219, 192, 254, 120, 205, 90, 244,
  31, 221, 168, 51, 136, 7, 199, 49, 177, 18, 16, 89, 39, 128, 236, 95, 96, 81, 127, 169, 25, 181, 74, 13, 45, 229, 122, 159, 147, 201, 156, 239,
  160, 224, 59, 77, 174, 42, 245, 176, 200, 235, 187, 60, 131, 83, 153, 97, 23, 43, 4, 126, 186, 119, 214, 38, 225, 105, 20, 99, 85, 33, 12, 125]

def sbox (a : B) : B := sboxT.getD a.toNat 0
def isbox (a : B) : B := isboxT.getD a.toNat 0

/-- a byte, turned up by n -/
def tup (x : B) (n : B) : B := x <<< n ||| x >>> (8 - n)

theorem sbox_eq (a : B) : sbox a = inv a ^^^ 99 ^^^ tup (inv a) 1 ^^^ tup (inv a) 2 ^^^ tup (inv a) 3 ^^^ tup (inv a) 4 := by
  revert a; exact all_bytes (by decide +kernel)
theorem isbox_sbox (a : B) : isbox (sbox a) = a := by
  revert a; exact all_bytes (by decide +kernel)
theorem sbox_isbox (a : B) : sbox (isbox a) = a := by
  revert a; exact all_bytes (by decide +kernel)

def xorL (a b : List B) : List B := List.zipWith (· ^^^ ·) a b

/-- powers of 2 -/
def rcon : Nat → B
  | 0 => 1
  | n + 1 => xt (rcon n)

/-- the next word behind words, of a key of n words -/
def aesNext (n : Nat) (ws : List (List B)) : List B :=
  let i := ws.length
  let t := ws.getD (i - 1) []
  let u := if i % n = 0 then [sbox (t.getD 1 0) ^^^ rcon (i / n - 1), sbox (t.getD 2 0), sbox (t.getD 3 0), sbox (t.getD 0 0)]
    else if n = 8 ∧ i % n = 4 then t.map sbox else t
  xorL u (ws.getD (i - n) [])

/-- the words of the key, n of them, and k words more -/
def aesWords (key : List B) (n : Nat) : Nat → List (List B)
  | 0 => (List.range n).map fun i => (key.drop (4 * i)).take 4
  | k + 1 => aesWords key n k ++ [aesNext n (aesWords key n k)]

/-- all words of the round keys -/
def aesAll (key : List B) : List (List B) := aesWords key (key.length / 4) (3 * (key.length / 4) + 28)

def aesRounds (key : List B) : Nat := key.length / 4 + 6

/-- the r-th round key -/
def aesKey (key : List B) (r : Nat) : List B := ((aesAll key).drop (4 * r)).take 4 |>.flatten

def aesRow (by' : Nat) (s : List B) : List B := (List.range 16).map fun j => s.getD (4 * ((j / 4 + by' * (j % 4)) % 4) + j % 4) 0

def aesCol (p : List B) (s : List B) : List B := (List.range 16).map fun j =>
  mul (p.getD (j % 4) 0) (s.getD (4 * (j / 4)) 0) ^^^ mul (p.getD ((j + 3) % 4) 0) (s.getD (4 * (j / 4) + 1) 0) ^^^
  mul (p.getD ((j + 2) % 4) 0) (s.getD (4 * (j / 4) + 2) 0) ^^^ mul (p.getD ((j + 1) % 4) 0) (s.getD (4 * (j / 4) + 3) 0)

/-- the r-th round, of so many -/
def aesRound (key : List B) (r : Nat) (s : List B) : List B :=
  let t := aesRow 1 (s.map sbox)
  xorL (if r < aesRounds key then aesCol [2, 1, 1, 3] t else t) (aesKey key r)

def aesUpto (key b : List B) : Nat → List B
  | 0 => xorL b (aesKey key 0)
  | r + 1 => aesRound key (r + 1) (aesUpto key b r)

def aesEnc (key b : List B) : List B := aesUpto key b (aesRounds key)

/-- the r-th round, back -/
def aesRoundBack (key : List B) (r : Nat) (s : List B) : List B :=
  let t := xorL s (aesKey key r)
  (aesRow 3 (if r < aesRounds key then aesCol [14, 9, 13, 11] t else t)).map isbox

/-- back, from behind round r -/
def aesDown (key : List B) : Nat → List B → List B
  | 0, s => xorL s (aesKey key 0)
  | r + 1, s => aesDown key r (aesRoundBack key (r + 1) s)

def aesDec (key b : List B) : List B := aesDown key (aesRounds key) b

example : (aesEnc [0,1,2,3,4,5,6,7,8,9,10,11,12,13,14,15] [0x00,0x11,0x22,0x33,0x44,0x55,0x66,0x77,0x88,0x99,0xaa,0xbb,0xcc,0xdd,0xee,0xff]).take 2 = [0x69, 0xc4] := by decide +kernel

end Lg

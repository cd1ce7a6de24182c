/- The plain functions of package digest: SHA-256, the keyed digest, the checksum, hexadecimal and base 32, on lists of bytes; no program in sight. -/
import Derived.WalkKit
namespace Go.Proofs.YtlegmhmmoadggaaDoor
namespace Dg

/-- bytes as a string -/
def bs (l : List UInt8) : ByteArray := ⟨l.toArray⟩
theorem bs_data (l : List UInt8) : (bs l).data.toList = l := rfl
theorem bs_size (l : List UInt8) : (bs l).size = l.length := rfl
theorem bs_of (s : ByteArray) : bs s.data.toList = s := rfl

/-! ### the digest -/
def K : List UInt32 := [0x428a2f98, 0x71374491, 0xb5c0fbcf, 0xe9b5dba5, 0x3956c25b, 0x59f111f1, 0x923f82a4, 0xab1c5ed5,
  0xd807aa98, 0x12835b01, 0x243185be, 0x550c7dc3, 0x72be5d74, 0x80deb1fe, 0x9bdc06a7, 0xc19bf174,
  0xe49b69c1, 0xefbe4786, 0x0fc19dc6, 0x240ca1cc, 0x2de92c6f, 0x4a7484aa, 0x5cb0a9dc, 0x76f988da,
  0x983e5152, 0xa831c66d, 0xb00327c8, 0xbf597fc7, 0xc6e00bf3, 0xd5a79147, 0x06ca6351, 0x14292967,
  0x27b70a85, 0x2e1b2138, 0x4d2c6dfc, 0x53380d13, 0x650a7354, 0x766a0abb, 0x81c2c92e, 0x92722c85,
  0xa2bfe8a1, 0xa81a664b, 0xc24b8b70, 0xc76c51a3, 0xd192e819, 0xd6990624, 0xf40e3585, 0x106aa070,
  0x19a4c116, 0x1e376c08, 0x2748774c, 0x34b0bcb5, 0x391c0cb3, 0x4ed8aa4a, 0x5b9cca4f, 0x682e6ff3,
  0x748f82ee, 0x78a5636f, 0x84c87814, 0x8cc70208, 0x90befffa, 0xa4506ceb, 0xbef9a3f7, 0xc67178f2]

/-- x moved to the right by n bits -/
def shr (x : UInt32) (n : Nat) : UInt32 := UInt32.ofNat (x.toNat / 2 ^ n)
/-- x turned to the right by n bits (0 < n < 32) -/
def rotr (x : UInt32) (n : Nat) : UInt32 := UInt32.ofNat (x.toNat * 2 ^ (32 - n) % 4294967296 ||| x.toNat / 2 ^ n)
def sig0 (x : UInt32) : UInt32 := rotr x 7 ^^^ rotr x 18 ^^^ shr x 3
def sig1 (x : UInt32) : UInt32 := rotr x 17 ^^^ rotr x 19 ^^^ shr x 10
def Sig0 (x : UInt32) : UInt32 := rotr x 2 ^^^ rotr x 13 ^^^ rotr x 22
def Sig1 (x : UInt32) : UInt32 := rotr x 6 ^^^ rotr x 11 ^^^ rotr x 25
def ch (e f g : UInt32) : UInt32 := (e &&& f) ^^^ (~~~e &&& g)
def maj (a b c : UInt32) : UInt32 := (a &&& b) ^^^ (a &&& c) ^^^ (b &&& c)

/-- a word of four bytes -/
def be32 (a b c d : UInt8) : UInt32 := UInt32.ofNat (((a.toNat * 256 + b.toNat) * 256 + c.toNat) * 256 + d.toNat)
def wordAt (l : List UInt8) (i : Nat) : UInt32 := be32 (l.getD (4 * i) 0) (l.getD (4 * i + 1) 0) (l.getD (4 * i + 2) 0) (l.getD (4 * i + 3) 0)
/-- the words of a block -/
def words (l : List UInt8) : List UInt32 := (List.range 16).map (wordAt l)
def nextW (w : List UInt32) (i : Nat) : UInt32 := w.getD (i - 16) 0 + sig0 (w.getD (i - 15) 0) + w.getD (i - 7) 0 + sig1 (w.getD (i - 2) 0)
def schedN : Nat → List UInt32 → List UInt32
  | 0, w => w
  | n + 1, w => schedN n (w ++ [nextW w w.length])
def sched (l : List UInt8) : List UInt32 := schedN 48 (words l)

structure St where
  a : UInt32
  b : UInt32
  c : UInt32
  d : UInt32
  e : UInt32
  f : UInt32
  g : UInt32
  h : UInt32
def St.list (s : St) : List UInt32 := [s.a, s.b, s.c, s.d, s.e, s.f, s.g, s.h]
def St.add (s t : St) : St := ⟨s.a + t.a, s.b + t.b, s.c + t.c, s.d + t.d, s.e + t.e, s.f + t.f, s.g + t.g, s.h + t.h⟩
def iv : St := ⟨0x6a09e667, 0xbb67ae85, 0x3c6ef372, 0xa54ff53a, 0x510e527f, 0x9b05688c, 0x1f83d9ab, 0x5be0cd19⟩
def round (t : St) (k w : UInt32) : St :=
  let x := t.h + Sig1 t.e + ch t.e t.f t.g + k + w
  let y := Sig0 t.a + maj t.a t.b t.c
  ⟨x + y, t.a, t.b, t.c, t.d + x, t.e, t.f, t.g⟩
/-- the rounds up to n -/
def rounds (w : List UInt32) : Nat → St → St
  | 0, t => t
  | n + 1, t => let t' := rounds w n t; round t' (K.getD n 0) (w.getD n 0)
def comp (s : St) (block : List UInt8) : St := s.add (rounds (sched block) 64 s)
/-- n blocks -/
def run : Nat → St → List UInt8 → St
  | 0, s, _ => s
  | n + 1, s, l => run n (comp s (l.take 64)) (l.drop 64)
def be64 (n : Nat) : List UInt8 := [7, 6, 5, 4, 3, 2, 1, 0].map fun i => UInt8.ofNat (n / 2 ^ (8 * i))
/-- how many zeros -/
def zeros (n : Nat) : Nat := (119 - n % 64) % 64
def pad (l : List UInt8) : List UInt8 := l ++ [128] ++ List.replicate (zeros l.length) 0 ++ be64 (8 * l.length)
def bytes4 (x : UInt32) : List UInt8 := [UInt8.ofNat (x.toNat / 16777216), UInt8.ofNat (x.toNat / 65536), UInt8.ofNat (x.toNat / 256), UInt8.ofNat x.toNat]
def sumL (l : List UInt8) : List UInt8 := ((run ((pad l).length / 64) iv (pad l)).list).flatMap bytes4

/-! ### the keyed digest -/
def maskL (key : List UInt8) (m : UInt8) : List UInt8 := (List.range 64).map fun i => key.getD i 0 ^^^ m
def keyL (key : List UInt8) : List UInt8 := if 64 < key.length then sumL key else key
def macL (key l : List UInt8) : List UInt8 := sumL (maskL (keyL key) 92 ++ sumL (maskL (keyL key) 54 ++ l))
def shortN (l : List UInt8) : Nat := ((sumL l).take 8).foldl (fun n c => n * 256 + c.toNat) 0 / 16

/-! ### the checksum -/
def crcBit (x : UInt32) : UInt32 := if x.toNat % 2 = 1 then shr x 1 ^^^ 0xedb88320 else shr x 1
def crcBits : Nat → UInt32 → UInt32
  | 0, x => x
  | n + 1, x => crcBit (crcBits n x)
def crcByte (x : UInt32) (b : UInt8) : UInt32 := crcBits 8 (x ^^^ b.toUInt32)
def crcX (l : List UInt8) : UInt32 := l.foldl crcByte 0xffffffff
def crcN (l : List UInt8) : Nat := (~~~ crcX l).toNat

/-! ### hexadecimal and base 32 -/
def hexDigits : List UInt8 := [48, 49, 50, 51, 52, 53, 54, 55, 56, 57, 97, 98, 99, 100, 101, 102]
def hexL (l : List UInt8) : List UInt8 := l.flatMap fun c => [hexDigits.getD (c.toNat / 16) 0, hexDigits.getD (c.toNat % 16) 0]
/-- the number of a digit in a list of digits -/
def idx (l : List UInt8) (c : UInt8) : Option Nat := l.findIdx? (· == c)
def unhexL : List UInt8 → Option (List UInt8)
  | [] => some []
  | [_] => none
  | a :: b :: l => match idx hexDigits a, idx hexDigits b with
    | some x, some y => (unhexL l).map (UInt8.ofNat (16 * x + y) :: ·)
    | _, _ => none
def letters : List UInt8 := [97, 98, 99, 100, 101, 102, 103, 104, 105, 106, 107, 108, 109, 110, 111, 112, 113, 114, 115, 116, 117, 118, 119, 120, 121, 122, 50, 51, 52, 53, 54, 55]
/-- a number's last k digits to a base, the first one first; and back -/
def digs (B : Nat) : Nat → Nat → List Nat
  | 0, _ => []
  | k + 1, n => digs B k (n / B) ++ [n % B]
def num (B : Nat) (l : List Nat) : Nat := l.foldl (fun n d => n * B + d) 0
def num8 (l : List UInt8) : Nat := num 256 (l.map (·.toNat))
def letter (n : Nat) : UInt8 := letters.getD n 0
/-- base 32: as many characters as 5 bits each want -/
def b32L (l : List UInt8) : List UInt8 := (digs 32 ((8 * l.length + 4) / 5) (num8 l * 2 ^ (5 * ((8 * l.length + 4) / 5) - 8 * l.length))).map letter
def vals : List UInt8 → Option (List Nat)
  | [] => some []
  | c :: l => match idx letters c with
    | some x => (vals l).map (x :: ·)
    | none => none
def unb32L (l : List UInt8) : Option (List UInt8) := match vals l with
  | none => none
  | some v => if 5 ≤ 5 * v.length % 8 ∨ num 32 v % 2 ^ (5 * v.length % 8) ≠ 0 then none
    else some ((digs 256 (5 * v.length / 8) (num 32 v / 2 ^ (5 * v.length % 8))).map UInt8.ofNat)
end Dg
end Go.Proofs.YtlegmhmmoadggaaDoor

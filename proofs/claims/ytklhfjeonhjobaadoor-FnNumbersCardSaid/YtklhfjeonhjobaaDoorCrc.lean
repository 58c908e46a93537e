/-
  The check sum of 32 bits, in plain Lean: one bit, one byte, a list of bytes; each keeps below 2^32.
-/
import Derived.Laws.BitsAllLaws
namespace Go.Proofs.YtklhfjeonhjobaaDoor.Crc
def bitN (x : Nat) : Nat := if x % 2 = 1 then (x / 2) ^^^ 3558460437 else x / 2
def bitsN (x : Nat) : Nat → Nat
  | 0 => x
  | k + 1 => bitN (bitsN x k)
def crcB (x : Nat) (b : UInt8) : Nat := bitsN (x ^^^ b.toNat) 8
def crc (x : Nat) (l : List UInt8) : Nat := l.foldl crcB x
theorem bitN_lt {x : Nat} (h : x < 4294967296) : bitN x < 4294967296 := by
  unfold bitN; split
  · exact Nat.xor_lt_two_pow (n := 32) (by omega) (by omega)
  · omega
theorem bitsN_lt {x : Nat} (h : x < 4294967296) : ∀ k, bitsN x k < 4294967296
  | 0 => h
  | k + 1 => bitN_lt (bitsN_lt h k)
theorem xor_byte_lt {x : Nat} (h : x < 4294967296) (b : UInt8) : x ^^^ b.toNat < 4294967296 :=
  Nat.xor_lt_two_pow (n := 32) (by omega) (by have := b.toNat_lt; omega)
theorem crcB_lt {x : Nat} (h : x < 4294967296) (b : UInt8) : crcB x b < 4294967296 := bitsN_lt (xor_byte_lt h b) 8
theorem crc_lt (l : List UInt8) : ∀ {x : Nat}, x < 4294967296 → crc x l < 4294967296 := by
  induction l with
  | nil => intro x h; exact h
  | cons b l ih => intro x h; exact ih (crcB_lt h b)
theorem crc_snoc (x : Nat) (l : List UInt8) (b : UInt8) : crc x (l ++ [b]) = crcB (crc x l) b := by simp [crc, List.foldl_append]
theorem take_snoc (s : ByteArray) (k : Nat) (h : k < s.size) : s.data.toList.take (k + 1) = s.data.toList.take k ++ [s[k]] := by
  rw [List.take_succ_eq_append_getElem (by simpa using h)]; rfl
theorem crc_step (n : Nat) (s : ByteArray) (k : Nat) (h : k < s.size) : crc n (s.data.toList.take (k + 1)) = bitsN (crc n (s.data.toList.take k) ^^^ s[k].toNat) 8 := by
  rw [take_snoc s k h, crc_snoc]; rfl
theorem bitN_odd {x : Nat} (h : x % 2 = 1) : bitN x = (x / 2) ^^^ 3558460437 := by simp [bitN, h]
theorem bitN_even {x : Nat} (h : ¬ x % 2 = 1) : bitN x = x / 2 := by simp [bitN, h]
theorem and_one {z : Nat} (h : z < 4294967296) : bits BinOp.and IntKind.u32 (z : Int) 1 = ((z % 2 : Nat) : Int) := by
  rw [show (1 : Int) = ((1 : Nat) : Int) from rfl, u32_and_nat _ _ h (by omega), nat_mask1]
theorem xor_poly {z : Nat} (h : z < 4294967296) : bits BinOp.xor IntKind.u32 ((z : Int) / 2) 3558460437 = ((z / 2 ^^^ 3558460437 : Nat) : Int) := by
  rw [show (z : Int) / 2 = ((z / 2 : Nat) : Int) from by omega, show (3558460437 : Int) = ((3558460437 : Nat) : Int) from rfl]
  exact u32_xor_nat _ _ (by omega) (by omega)
end Go.Proofs.YtklhfjeonhjobaaDoor.Crc

/-
  The plain law of the sum: one byte that is another gives another sum, so a turned text is not unsealed.
  Conditions: a text of 20000 bytes at most.
-/
import Derived.Test.YtklhfjeonhjobaaSeal
namespace Go.Proofs.Ytklhfjeonhjobaa.Turned
open Go.Proofs.Ytklhfjeonhjobaa.Crc Go.Proofs.Ytklhfjeonhjobaa.Seal
theorem xor_inj {a b p : Nat} (h : a ^^^ p = b ^^^ p) : a = b := by
  have := congrArg (· ^^^ p) h
  simpa [Nat.xor_assoc] using this
theorem bitN_inj {x y : Nat} (hx : x < 4294967296) (hy : y < 4294967296) (h : bitN x = bitN y) : x = y := by
  have hp : (3558460437 : Nat).testBit 31 = true := by decide
  have t : ∀ z, z < 4294967296 → (z / 2).testBit 31 = false := fun z hz => Nat.testBit_lt_two_pow (by omega)
  unfold bitN at h
  split at h <;> split at h
  · have := xor_inj h; omega
  · have := congrArg (·.testBit 31) h
    simp [Nat.testBit_xor, t x hx, t y hy, hp] at this
  · have := congrArg (·.testBit 31) h
    simp [Nat.testBit_xor, t x hx, t y hy, hp] at this
  · omega
theorem bitsN_inj {x y : Nat} (hx : x < 4294967296) (hy : y < 4294967296) : ∀ k, bitsN x k = bitsN y k → x = y
  | 0, h => h
  | k + 1, h => bitsN_inj hx hy k (bitN_inj (bitsN_lt hx k) (bitsN_lt hy k) h)
theorem crcB_inj {x y : Nat} (hx : x < 4294967296) (hy : y < 4294967296) (b : UInt8) (h : crcB x b = crcB y b) : x = y :=
  xor_inj (bitsN_inj (xor_byte_lt hx b) (xor_byte_lt hy b) 8 h)
theorem crcB_byte {x : Nat} (hx : x < 4294967296) {a b : UInt8} (h : crcB x a = crcB x b) : a = b := by
  have := bitsN_inj (xor_byte_lt hx a) (xor_byte_lt hx b) 8 h
  rw [Nat.xor_comm x, Nat.xor_comm x] at this
  exact UInt8.toNat_inj.1 (xor_inj this)
theorem crc_inj : ∀ (l : List UInt8) {x y : Nat}, x < 4294967296 → y < 4294967296 → crc x l = crc y l → x = y
  | [], _, _, _, _, h => h
  | b :: l, _, _, hx, hy, h => crcB_inj hx hy b (crc_inj l (crcB_lt hx b) (crcB_lt hy b) h)
theorem crc_append (x : Nat) (l m : List UInt8) : crc x (l ++ m) = crc (crc x l) m := by simp [crc, List.foldl_append]
theorem crc_ne {x : Nat} (hx : x < 4294967296) (l m : List UInt8) {a b : UInt8} (h : crc x (l ++ a :: m) = crc x (l ++ b :: m)) : a = b := by
  rw [crc_append, crc_append] at h
  have hl := crc_lt l hx
  exact crcB_byte hl (crc_inj m (crcB_lt hl a) (crcB_lt hl b) h)
/-- a list whose one place is another -/
theorem set_split {l : List UInt8} {i : Nat} (h : i < l.length) (c : UInt8) : l = l.take i ++ l[i] :: l.drop (i + 1) ∧ l.set i c = l.take i ++ c :: l.drop (i + 1) := by
  refine ⟨?_, ?_⟩
  · rw [← List.drop_eq_getElem_cons h, List.take_append_drop]
  · rw [List.set_eq_take_append_cons_drop, if_pos h]
theorem crc_set {l : List UInt8} {i : Nat} (h : i < l.length) {c : UInt8} (hc : c ≠ l[i]) : crc 4294967295 (l.set i c) ≠ crc 4294967295 l := by
  intro e
  obtain ⟨h1, h2⟩ := set_split h c
  rw [h2] at e
  conv at e => rhs; rw [h1]
  exact hc (crc_ne (by omega) _ _ e)
theorem fourText_list (x : Nat) (hx : x < 4294967296) : (fourText x).data.toList = [UInt8.ofNat (x / 16777216 % 256), UInt8.ofNat (x / 65536 % 256), UInt8.ofNat (x / 256 % 256), UInt8.ofNat (x % 256)] := by
  have a : ((x : Int) / 16777216 % 256).toNat = x / 16777216 % 256 := by omega
  have b : ((x : Int) / 65536 % 256).toNat = x / 65536 % 256 := by omega
  have c : ((x : Int) / 256 % 256).toNat = x / 256 % 256 := by omega
  have d : ((x : Int) % 256).toNat = x % 256 := by omega
  simp [fourText, four, strOfNums, a, b, c, d]
theorem ofNat_inj {a b : Nat} (ha : a < 256) (hb : b < 256) (h : UInt8.ofNat a = UInt8.ofNat b) : a = b := by
  have := congrArg UInt8.toNat h
  simp at this
  omega
theorem fourText_inj {x y : Nat} (hx : x < 4294967296) (hy : y < 4294967296) (h : (fourText x).data.toList = (fourText y).data.toList) : x = y := by
  rw [fourText_list x hx, fourText_list y hy] at h
  simp only [List.cons.injEq, and_true] at h
  obtain ⟨h1, h2, h3, h4⟩ := h
  have := ofNat_inj (by omega) (by omega) h1
  have := ofNat_inj (by omega) (by omega) h2
  have := ofNat_inj (by omega) (by omega) h3
  have := ofNat_inj (by omega) (by omega) h4
  omega
theorem extract_list (s : ByteArray) (a b : Nat) : (s.extract a b).data.toList = (s.data.toList.take b).drop a := by
  rw [ByteArray.data_extract, Array.toList_extract, List.extract_eq_take_drop, List.drop_take]
theorem seals_iff (t : ByteArray) (n : Nat) : seals t n = true ↔ (fourText (crc 4294967295 (t.data.toList.take n))).data.toList = (t.data.toList.take (n + 4)).drop n := by
  unfold seals sum
  rw [beq_iff_eq, ByteArray.toList_eq, ByteArray.toList_eq, extract_list, extract_list, List.drop_zero]
/-- the sealed text -/
def tt (s : ByteArray) : ByteArray := s ++ fourText (sum s)
theorem tt_size (s : ByteArray) : (tt s).size = s.size + 4 := by unfold tt; rw [ByteArray.size_append, fourText_size]
theorem tt_list (s : ByteArray) : (tt s).data.toList = s.data.toList ++ (fourText (sum s)).data.toList := by unfold tt; rw [ByteArray.data_append, Array.toList_append]
theorem len_list (s : ByteArray) : s.data.toList.length = s.size := by simp
theorem four_len (s : ByteArray) : (fourText (sum s)).data.toList.length = 4 := by rw [len_list, fourText_size]
theorem unsealed_tt (s : ByteArray) (hs : s.size ≤ 20000) : unsealed (tt s) = (s, true) := by
  have hl := len_list s
  have h4 := four_len s
  have hsz := tt_size s
  have hse : seals (tt s) ((tt s).size - 4) = true := by
    rw [seals_iff, hsz, Nat.add_sub_cancel, tt_list, List.take_append_of_le_length (by omega), List.take_of_length_le (by omega), List.take_of_length_le (by rw [List.length_append]; omega),
      List.drop_append_of_le_length (by omega), List.drop_of_length_le (by omega)]
    try rfl
  unfold unsealed
  rw [if_pos ⟨by omega, by omega, hse⟩]
  congr 1
  rw [hsz, Nat.add_sub_cancel]
  apply ByteArray.ext
  apply Array.toList_inj.1
  rw [extract_list, tt_list, List.drop_zero, List.take_append_of_le_length (by omega), List.take_of_length_le (by omega)]
theorem unsealed_turned (s t : ByteArray) (hs : s.size ≤ 20000) {i : Nat} {c : UInt8} (hi : i < (tt s).data.toList.length) (hc : c ≠ (tt s).data.toList[i]) (ht : t.data.toList = (tt s).data.toList.set i c) :
    unsealed t = (ByteArray.empty, false) := by
  have hl := len_list s
  have h4 := four_len s
  have hsz : t.size = s.size + 4 := by rw [← len_list t, ht, List.length_set, len_list, tt_size]
  unfold unsealed
  rw [if_neg]
  rintro ⟨-, -, h⟩
  rw [seals_iff, hsz, Nat.add_sub_cancel, ht] at h
  have hlen : (tt s).data.toList.length = s.size + 4 := by rw [len_list, tt_size]
  by_cases hin : i < s.size
  · have e1 : ((tt s).data.toList.set i c).take s.size = s.data.toList.set i c := by
      rw [tt_list, List.set_append_left _ _ (by omega), List.take_append_of_le_length (by simp <;> omega), List.take_of_length_le (by simp)]
    have e2 : (((tt s).data.toList.set i c).take (s.size + 4)).drop s.size = (fourText (sum s)).data.toList := by
      rw [List.take_of_length_le (by simp [hlen]), tt_list, List.set_append_left _ _ (by omega), List.drop_append_of_le_length (by simp), List.drop_of_length_le (by simp)]
      rfl
    rw [e1, e2] at h
    have := fourText_inj (crc_lt _ (by omega)) (sum_lt s) h
    have hci : c ≠ s.data.toList[i]'(by omega) := by
      intro e; apply hc; rw [e]; simp [tt_list, List.getElem_append_left (show i < s.data.toList.length by omega)]
    exact crc_set (by omega) hci this
  · have e1 : ((tt s).data.toList.set i c).take s.size = s.data.toList := by
      rw [tt_list, List.set_append_right _ _ (by omega), List.take_append_of_le_length (by omega), List.take_of_length_le (by omega)]
    have e2 : (((tt s).data.toList.set i c).take (s.size + 4)).drop s.size = (fourText (sum s)).data.toList.set (i - s.size) c := by
      rw [List.take_of_length_le (by simp [hlen]), tt_list, List.set_append_right _ _ (by omega), List.drop_append_of_le_length (by omega), List.drop_of_length_le (by omega), hl]
      rfl
    rw [e1, e2] at h
    have hj : i - s.size < (fourText (sum s)).data.toList.length := by omega
    have h2 : (fourText (sum s)).data.toList[i - s.size] = c := by
      have := congrArg (fun l => l[i - s.size]?) h
      simp only [List.getElem?_set, if_pos rfl, hj] at this
      rw [show fourText (crc 4294967295 s.data.toList) = fourText (sum s) from rfl, List.getElem?_eq_getElem hj] at this
      simpa using this
    apply hc
    rw [← h2]
    simp [tt_list, List.getElem_append_right (show s.data.toList.length ≤ i by omega), hl]
end Go.Proofs.Ytklhfjeonhjobaa.Turned

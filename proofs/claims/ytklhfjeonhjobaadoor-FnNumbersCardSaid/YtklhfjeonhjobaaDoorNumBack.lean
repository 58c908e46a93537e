/-
  Numbers and texts come back from their texts: the plain law of FnNumbers.
  Conditions: none.
-/
import Derived.Test.YtklhfjeonhjobaaDoorReadVar
import Derived.Test.YtklhfjeonhjobaaDoorUnhex
import Derived.Test.YtklhfjeonhjobaaDoorRead
namespace Go.Proofs.YtklhfjeonhjobaaDoor.NumBack
open Go.Proofs.YtklhfjeonhjobaaDoor.VarMath Go.Proofs.YtklhfjeonhjobaaDoor.Var
def bytesOf (l : List Int) : List UInt8 := l.map fun n => UInt8.ofNat n.toNat
theorem get_drop {s : ByteArray} {j : Nat} {b : UInt8} {l : List UInt8} (h : s.data.toList.drop j = b :: l) : ∃ hj : j < s.size, s[j] = b ∧ s.data.toList.drop (j + 1) = l := by
  have hl : s.data.toList.length = s.size := by simp
  have hj : j < s.data.toList.length := by
    apply Nat.lt_of_not_le
    intro hle
    rw [List.drop_of_length_le hle] at h
    cases h
  refine ⟨by omega, ?_, ?_⟩
  · rw [List.drop_eq_getElem_cons hj] at h
    have := (List.cons.inj h).1
    exact this
  · rw [List.drop_eq_getElem_cons hj] at h
    exact (List.cons.inj h).2
theorem ofNat_small {x : Nat} (h : x < 256) : (UInt8.ofNat x).toNat = x := UInt8.toNat_ofNat_of_lt' h
/-- reading what was written -/
theorem rdv_text (s : ByteArray) (a : Nat) : ∀ (f i u acc n : Nat) (rest : List UInt8), n < 128 ^ (f + 1) → s.data.toList.drop (a + i) = bytesOf (varB f n) ++ rest → acc + n * u ≤ 1000000000 → (0 < i → 0 < n) →
    rdv s a (f + 1) i acc u = some (acc + n * u, a + i + (varB f n).length)
  | f, i, u, acc, n, rest, hn, hd, hb, h0 => by
    by_cases h : 127 < n
    · obtain ⟨g, rfl, hg, hv⟩ := varB_more h hn
      have hd' := hd
      rw [hv] at hd'
      have hx : ((n : Int) % 128 + 128).toNat = n % 128 + 128 := by omega
      obtain ⟨hj, hc, hr⟩ := get_drop (s := s) (j := a + i) (b := UInt8.ofNat (n % 128 + 128)) (l := bytesOf (varB g (n / 128)) ++ rest) (by rw [hd']; simp only [bytesOf, List.map_cons, hx]; rfl)
      have hcn : s[a + i].toNat = n % 128 + 128 := by rw [hc, ofNat_small (by omega)]
      have hm : (n % 128 + 128) % 128 = n % 128 := by omega
      have hsum : acc + n % 128 * u + n / 128 * (u * 128) = acc + n * u := by
        have e : n / 128 * (u * 128) = (128 * (n / 128)) * u := by rw [Nat.mul_comm u 128, ← Nat.mul_assoc, Nat.mul_comm (n / 128) 128]
        have e2 : n * u = (n % 128) * u + (128 * (n / 128)) * u := by rw [← Nat.add_mul, Nat.mod_add_div]
        omega
      rw [rdv_on hj (by omega), hcn, hm, rdv_text s a g (i + 1) (u * 128) (acc + n % 128 * u) (n / 128) rest hg (by rw [← hr]; rfl) (by omega) (fun _ => by omega), hsum, hv]
      simp only [List.length_cons]
      congr 2; omega
    · have hv := varB_last (f := f) h
      rw [hv] at hd ⊢
      obtain ⟨hj, hc, -⟩ := get_drop (s := s) (j := a + i) (b := UInt8.ofNat n) (l := rest) (by rw [hd]; simp [bytesOf])
      have hcn : s[a + i].toNat = n := by rw [hc, ofNat_small (by omega)]
      have hm : n % 128 = n := by omega
      rw [rdv_yes hj (by omega) (by rw [hcn, hm]; omega), hcn, hm]
      rfl
theorem text_list (n : Nat) : (text n).data.toList = bytesOf (varB 4 n) := by unfold text; exact strOfNums_data _
theorem text_len (n : Nat) : (text n).size = (varB 4 n).length := by unfold text; rw [strOfNums_size]
theorem readVar_back (p q : ByteArray) (n : Nat) (hn : n ≤ 1000000000) : readVar (p ++ text n ++ q) p.size = some (n, p.size + (text n).size) := by
  rw [readVar_in (by simp only [ByteArray.size_append]; omega)]
  have hd : (p ++ text n ++ q).data.toList.drop (p.size + 0) = bytesOf (varB 4 n) ++ q.data.toList := by
    have hl : p.data.toList.length = p.size := by simp
    simp only [ByteArray.data_append, Array.toList_append, List.append_assoc, ← text_list]
    rw [Nat.add_zero, ← hl, List.drop_left]
  rw [rdv_text _ p.size 4 0 1 0 n q.data.toList (by omega) hd (by omega) (by omega), text_len]
  simp
theorem byte_eq {a b : ByteArray} (h : a.data.toList = b.data.toList) : a = b := ByteArray.ext (Array.toList_inj.1 h)
theorem readShort_back (t : ByteArray) (ht : t.size ≤ 20000) : readShort (text t.size ++ t) 0 = .tuple #[.string t, .int .i64 (((text t.size).size + t.size : Nat) : Int), .bool true] := by
  have h := readVar_back ByteArray.empty t t.size (by omega)
  rw [ByteArray.empty_append] at h
  have hz : (ByteArray.empty.size : Int) = 0 := rfl
  rw [hz, show ByteArray.empty.size = 0 from rfl, Nat.zero_add] at h
  unfold readShort
  rw [h]
  simp only
  rw [if_pos ⟨ht, by rw [ByteArray.size_append]; exact Nat.le_refl _⟩]
  have he : (text t.size ++ t).extract (text t.size).size ((text t.size).size + t.size) = t := by
    apply byte_eq
    rw [ByteArray.data_extract, Array.toList_extract, List.extract_eq_take_drop, ByteArray.data_append, Array.toList_append]
    have hl : (text t.size).data.toList.length = (text t.size).size := by simp
    rw [← hl, List.drop_left]
    apply List.take_of_length_le
    simp
  rw [he]
open Go.Proofs.YtklhfjeonhjobaaDoor.Hex (hexI fig unhexI unhex hex unhexI_good)
theorem val_fig : ∀ x : Fin 16, Hex.val (UInt8.ofNat (fig x.1).toNat).toNat = (x.1 : Int) := by decide
theorem unhexI_hexI : ∀ l : List UInt8, unhexI (bytesOf (hexI l)) = some (l.map fun b => (b.toNat : Int))
  | [] => rfl
  | b :: l => by
    have ih := unhexI_hexI l
    have hb := b.toNat_lt
    have e : bytesOf (hexI (b :: l)) = UInt8.ofNat (fig (b.toNat / 16)).toNat :: UInt8.ofNat (fig (b.toNat % 16)).toNat :: bytesOf (hexI l) := by simp [bytesOf, hexI]
    have h1 := val_fig ⟨b.toNat / 16, by omega⟩
    have h2 := val_fig ⟨b.toNat % 16, by omega⟩
    simp only at h1 h2
    rw [e, unhexI_good (by omega), h1, h2, ih]
    simp only [Option.map_some, List.map_cons]
    congr 2
    omega
theorem strOf_nums (t : ByteArray) : strOfNums (t.data.toList.map fun b => (b.toNat : Int)) = t := by
  apply byte_eq
  rw [strOfNums_data, List.map_map]
  conv => rhs; rw [← List.map_id t.data.toList]
  apply List.map_congr_left
  intro b _
  simp
theorem unhex_back (t : ByteArray) (ht : t.size ≤ 20000) : unhex (strOfNums (hexI t.data.toList)) = (t, true) := by
  have hl : t.data.toList.length = t.size := by simp
  have hs : (strOfNums (hexI t.data.toList)).size = 2 * t.size := by rw [strOfNums_size, Hex.hexI_len, hl]
  unfold unhex
  rw [if_pos ⟨by omega, by omega⟩]
  have hd : (strOfNums (hexI t.data.toList)).data.toList = bytesOf (hexI t.data.toList) := strOfNums_data _
  rw [hd, unhexI_hexI]
  simp only [strOf_nums]
open Go.Lib
theorem digits_val : ∀ (k u : Nat), u < 10 ^ (k + 1) → (decDigits u).length ≤ k + 1 ∧ (decDigits u).all Dec.isF = true ∧ Dec.val (decDigits u) = u
  | k, u, hu => by
    by_cases h : u < 10
    · rw [decDigits_one h]
      have hb : (UInt8.ofNat (48 + u)).toNat = 48 + u := ofNat_small (by omega)
      refine ⟨by simp, ?_, ?_⟩
      · simp only [List.all_cons, List.all_nil, Dec.isF, hb]; simp; omega
      · simp only [Dec.val, List.foldl_cons, List.foldl_nil, hb]; omega
    · cases k with
      | zero => omega
      | succ k =>
        have ih := digits_val k (u / 10) (by rw [Nat.div_lt_iff_lt_mul (by omega)]; rw [Nat.pow_succ] at hu; exact hu)
        have hb : (UInt8.ofNat (48 + u % 10)).toNat = 48 + u % 10 := ofNat_small (by omega)
        have e : decDigits u = decDigits (u / 10) ++ [UInt8.ofNat (48 + u % 10)] := by
          conv => lhs; rw [decDigits]
          rw [dif_neg h]
        rw [e]
        refine ⟨by simp; omega, ?_, ?_⟩
        · rw [List.all_append, ih.2.1]
          simp only [List.all_cons, List.all_nil, Dec.isF, hb]; simp; omega
        · rw [Dec.val_snoc, ih.2.2, hb]; omega
theorem dec_back (n : Nat) (hn : n ≤ 1000000000) : Dec.readDec (Dec.dec (n : Int)) = ((n : Int), true) := by
  obtain ⟨h1, h2, h3⟩ := digits_val 9 n (by omega)
  have hd : (Dec.dec (n : Int)).data.toList = decDigits n := by
    unfold Dec.dec Lib.itoa
    rw [if_neg (by omega)]
    simp
  have hs : (Dec.dec (n : Int)).size = (decDigits n).length := by
    rw [← hd]; simp
  unfold Dec.readDec
  rw [hd, hs, h3, if_pos ⟨h1, h2, hn, rfl⟩]
end Go.Proofs.YtklhfjeonhjobaaDoor.NumBack

/-
  The contract of laws.markText: the letter m and the number's figures.
  Conditions: a number from 1 to 2^40.
-/
import Derived.Test.YtlakellmdcdaaaaChecked
import Derived.Test.YtlakellmdcdaaaaMem
import Derived.Test.YtlakellmdcdaaaaRow
import Derived.Test.YtlakellmdcdaaaaMix
import Derived.WalkKit
import Derived.ProofKit
import Derived.WalkLawsBesides
import Derived.WalkSpells
import Derived.Lib.Hide
namespace Go.Proofs.Ytlakellmdcdaaaa.MarkText
open Go.RowKit Go.Proofs.Ytlakellmdcdaaaa.Mem Go.Proofs.Ytlakellmdcdaaaa.Mix
/-- the figures of k ahead of acc -/
def figs : Nat → Nat → List UInt8 → List UInt8
  | 0, _, acc => acc
  | f + 1, k, acc => if k = 0 then acc else figs f (k / 10) (UInt8.ofNat (48 + k % 10) :: acc)
def mt (k : Nat) : ByteArray := ⟨(109 :: figs 64 k []).toArray⟩
theorem figs_zero (f : Nat) (acc : List UInt8) : figs f 0 acc = acc := by cases f <;> rfl
theorem figs_on (f j : Nat) (acc : List UInt8) (h : j ≠ 0) : figs (f + 1) j acc = figs f (j / 10) (UInt8.ofNat (48 + j % 10) :: acc) := by simp [figs, h]
theorem own_one (w : World) (e : TypeId) (v : Value) : (w.alloc (.cells #[v] e)).ownsRow w.heap.size e 1 (.slice (some ⟨w.heap.size, 0, none⟩) 1 1) 1 [v] :=
  ⟨by simp, .inr ⟨w.heap.size, 1, #[v], rfl, Nat.le_refl _, heap_alloc_new w _, by omega, by simp [maxLen], by simp, by simp⟩⟩
theorem str_one (j : Nat) : strOfNums [48 + (j : Int) % 10] = ⟨#[UInt8.ofNat (48 + j % 10)]⟩ := by
  have : ((48 : Int) + (j : Int) % 10).toNat = 48 + j % 10 := by omega
  simp [strOfNums, this]
theorem cat_one (c : UInt8) (acc : List UInt8) : (⟨#[c]⟩ : ByteArray) ++ ⟨acc.toArray⟩ = ⟨(c :: acc).toArray⟩ := by
  have h : ∀ a b : ByteArray, a.data = b.data → a = b := fun a b h => by cases a; cases b; simp at h; rw [h]
  apply h
  simp [ByteArray.data_append]
set_option maxRecDepth 100000 in
set_option maxHeartbeats 800000 in
theorem mark_any (k : Nat) (h1 : 1 ≤ k) (hm : k ≤ 1099511627776) (w : World) :
    Calls Try.prog 89 #[.int .i64 k] w fun e w' => e = .returned (.string (mt k)) ∧ Below w.heap.size w w' := by
  have d1 : decide ((k : Int) ≤ 0) = false := by simp; omega
  go_enter Try.func89, Try.ntmps89
  go_wp2
  go_loopw [0, 3] (fun n o wr => ∃ (j f : Nat) (acc : List UInt8), n = .int .i64 j ∧ o = .string ⟨acc.toArray⟩ ∧ j ≤ 1099511627776 ∧ j < 2 ^ f ∧ acc.length + f ≤ 64 ∧ Hid (figs 64 k [] = figs f j acc) ∧ Below w.heap.size w wr) (fun n _ _ => (intOf n).toNat)
  case atStart => exact ⟨k, 64, [], rfl, rfl, hm, by omega, by simp, Lib.hid rfl, Below.refl _ _⟩
  case round =>
    obtain ⟨j, f, acc, rfl, rfl, hj, hf, hl, hr, hbw⟩ := hrel
    rcases Nat.eq_zero_or_pos j with rfl | hpos
    · have hv := Lib.hid (show (⟨#[109]⟩ : ByteArray) ++ ⟨acc.toArray⟩ = mt k by rw [cat_one]; unfold mt; rw [hr.out, figs_zero])
      have hz : acc.length ≤ 64 := by omega
      have hsz : (⟨acc.toArray⟩ : ByteArray).size = acc.length := List.size_toArray
      generalize (⟨acc.toArray⟩ : ByteArray) = A at *
      go_wp2
      go_ret
      exact ⟨by rw [← hv.out]; rfl, hbw⟩
    · obtain ⟨f, rfl⟩ : ∃ g, f = g + 1 := ⟨f - 1, by
        rcases f with _ | f
        · simp at hf; omega
        · omega⟩
      have hon := Lib.hid (hr.out.trans (figs_on f j acc (by omega)))
      have hcat := Lib.hid (cat_one (UInt8.ofNat (48 + j % 10)) acc)
      have hs := string_own (d := 9) (xs := [48 + (j : Int) % 10]) Try.underlying63 Try.underlying5 Try.underlying9 (own_one wr 5 (.int .u8 (48 + (j : Int) % 10)))
      rw [str_one] at hs
      have d2 : decide ((0 : Int) < (j : Int)) = true := decide_eq_true (by omega)
      have m0 : 0 ≤ (j : Int) % 10 := by omega
      have m1 : (j : Int) % 10 < 10 := by omega
      have hq : j / 10 < 2 ^ f := by rw [Nat.pow_succ] at hf; omega
      have hq2 : ((j : Int) / 10) = ((j / 10 : Nat) : Int) := by omega
      have hsz : (⟨acc.toArray⟩ : ByteArray).size = acc.length := List.size_toArray
      have hs1 : (⟨#[UInt8.ofNat (48 + j % 10)]⟩ : ByteArray).size = 1 := rfl
      have hbn := hbw.alloc hbw.size (.cells #[.int .u8 (48 + (j : Int) % 10)] 5)
      generalize (⟨#[UInt8.ofNat (48 + j % 10)]⟩ : ByteArray) = C at *
      generalize hA : (⟨acc.toArray⟩ : ByteArray) = A at *
      replace hA := Lib.hid hA
      replace hf := Lib.hid hf
      replace hq := Lib.hid hq
      replace hq2 := Lib.hid hq2
      replace hbn := Lib.hid hbn
      go_wp2
      refine ⟨⟨j / 10, f, UInt8.ofNat (48 + j % 10) :: acc, by rw [hq2.out], by rw [← hcat.out], by omega, hq.out, by simp; omega, hon, hbn.out⟩, ?_⟩
      simp [intOf]; omega
end Go.Proofs.Ytlakellmdcdaaaa.MarkText

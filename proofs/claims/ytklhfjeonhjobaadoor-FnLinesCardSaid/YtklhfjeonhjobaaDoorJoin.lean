/-
  The contracts of impl.JoinLines and spec.JoinLines: each line and the byte 10.
  Conditions: the slice reads as a list of texts; of their sizes together 2^40 at most.
-/
import Derived.Test.YtklhfjeonhjobaaDoorStrs
import Derived.Test.YtklhfjeonhjobaaDoorShelf
import Derived.Test.YtklhfjeonhjobaaDoorBuild
namespace Go.Proofs.YtklhfjeonhjobaaDoor.Join
open Go.RowKit Go.Proofs.YtklhfjeonhjobaaDoor.Row Go.Proofs.YtklhfjeonhjobaaDoor.Mem Go.Proofs.YtklhfjeonhjobaaDoor.Mix Go.Proofs.YtklhfjeonhjobaaDoor.Strs
def join (xs : List ByteArray) : List UInt8 := xs.flatMap fun s => s.data.toList ++ [10]
theorem join_snoc (xs : List ByteArray) (s : ByteArray) : join (xs ++ [s]) = join xs ++ (s.data.toList ++ [10]) := by simp [join]
theorem join_len (xs : List ByteArray) : (join xs).length = tot xs + xs.length := by
  induction xs with
  | nil => rfl
  | cons a xs ih =>
    simp only [join, List.flatMap_cons, List.length_append, List.length_cons, List.length_nil, tot, List.map_cons, List.sum_cons] at ih ⊢
    have : a.data.toList.length = a.size := by simp
    omega
def joined (xs : List ByteArray) : ByteArray := ⟨(join xs).toArray⟩
theorem cells_snoc (l : List UInt8) (s : ByteArray) : Lib.byteCells l ++ Lib.strCells s ++ [.int .u8 10] = Lib.byteCells (l ++ (s.data.toList ++ [10])) := by
  simp [Lib.byteCells, Lib.strCells]
theorem cells_len (l : List UInt8) : (Lib.byteCells l).length = l.length := by simp [Lib.byteCells]
theorem scells_len (s : ByteArray) : (Lib.strCells s).length = s.size := by simp [Lib.strCells]
set_option maxHeartbeats 800000 in
theorem impl_Join {v : Value} {xs : List ByteArray} {w : World} (h1 : Row w v 1 xs.length (strs xs)) (ht : tot xs + xs.length ≤ 1099511627776) :
    Calls Tryd.prog 30 #[v] w fun e w' => e = .returned (.string (joined xs)) ∧ Below w.heap.size w w' := by
  obtain ⟨A, c, rfl, -, hn, hnc, hcm, ha⟩ := h1
  go_enter Tryd.func30, Tryd.ntmps30
  go_wp2
  go_loopw [8] (fun i wr => ∃ k : Nat, k ≤ xs.length ∧ i = .int .i64 k ∧ Lib.IsBuilder 78 5 w.heap.size w.heap.size (Lib.byteCells (join (xs.take k))) wr ∧ Below w.heap.size w wr) (fun i _ => xs.length - (intOf i).toNat)
  case atStart => exact ⟨0, by omega, rfl, Lib.fresh_isBuilder _ _ w, (Below.refl _ _).alloc (Nat.le_refl _) _⟩
  case round =>
    obtain ⟨k, hk, rfl, hB, hbw⟩ := hrel
    by_cases hlt : k < xs.length
    · obtain ⟨b, off, rfl, hb, hc⟩ := ha (by omega)
      have c1 := (cells_of hbw b _ hb).trans (hc k _ (at_str hlt))
      clear hc ha
      have hz : (join (xs.take k)).length + xs[k].size + 1 ≤ 1099511627776 := by
        rw [join_len, List.length_take]
        have h2 := tot_take xs (k + 1)
        rw [List.take_succ_eq_append_getElem hlt, tot_snoc] at h2
        omega
      have hon := Lib.hid (show join (xs.take (k + 1)) = join (xs.take k) ++ (xs[k].data.toList ++ [10]) by rw [List.take_succ_eq_append_getElem hlt, join_snoc])
      generalize join (xs.take k) = j at *
      have hs := hbw.size
      replace hB := Lib.hid hB
      have l1 := cells_len j
      have l2 := scells_len xs[k]
      go_wp2_with fail
      refine (Tryd.Builder_WriteString w.heap.size w.heap.size (Lib.byteCells j) xs[k] wr hB.out (by omega) hs).mono ?_
      rintro e w1 ⟨rfl, hB1, hb1⟩
      replace hB1 := Lib.hid (show Lib.IsBuilder _ _ _ _ _ w1 from .inr hB1)
      have hs1 := Nat.le_trans hs hb1.size
      go_wp2_with fail
      refine (Tryd.Builder_WriteByte w.heap.size w.heap.size (Lib.byteCells j ++ Lib.strCells xs[k]) 10 w1 hB1.out (by rw [List.length_append]; omega) hs1).mono ?_
      rintro e w2 ⟨rfl, hB2, hb2⟩
      have hend := Lib.hid (hbw.trans (hb1.trans hb2))
      rw [cells_snoc, ← hon.out] at hB2
      replace hB2 := Lib.hid hB2
      clear hbw hb1 hb2 hB hB1 c1
      go_wp2
      go_roundw
      case rel => exact ⟨k + 1, by omega, by go_num, .inr hB2.out, hend.out⟩
      case measure => simp [intOf]; omega
    · obtain rfl : k = xs.length := by omega
      rw [List.take_length] at hB
      have hs := hbw.size
      go_wp2_with fail
      refine (Tryd.Builder_String_any w.heap.size w.heap.size (join xs) wr hB hs).mono ?_
      rintro e w1 ⟨rfl, hb1⟩
      go_wp2
      go_ret
      exact ⟨rfl, hbw.trans hb1⟩
end Go.Proofs.YtklhfjeonhjobaaDoor.Join

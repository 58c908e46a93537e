/-
  The contracts of impl.Flat and spec.Flat: each sign's text, a byte 10 behind a note, a blank between others.
  Conditions: the slice reads as a list of signs; of the texts' sizes together and the length 2^40 at most.
-/
import Derived.Test.YtklhfjeonhjobaaDoorSign
import Derived.Test.YtklhfjeonhjobaaDoorShelf
import Derived.Test.YtklhfjeonhjobaaDoorBuild
namespace Go.Proofs.YtklhfjeonhjobaaDoor.Sign
open Go.RowKit Go.Proofs.YtklhfjeonhjobaaDoor.Row Go.Proofs.YtklhfjeonhjobaaDoor.Mem Go.Proofs.YtklhfjeonhjobaaDoor.Mix Go.Proofs.YtklhfjeonhjobaaDoor.Recs
def tail (xs : List Sign) (k : Nat) (x : Sign) : List UInt8 := if x.k = 5 then [10] else if k + 1 < xs.length then [32] else []
def flat (xs : List Sign) : Nat → List UInt8
  | 0 => []
  | k + 1 => flat xs k ++ (match xs[k]? with | some x => x.t.data.toList ++ tail xs k x | none => [])
theorem flat_step {xs : List Sign} {k : Nat} (h : k < xs.length) : flat xs (k + 1) = flat xs k ++ (xs[k].t.data.toList ++ tail xs k xs[k]) := by
  simp [flat, h]
theorem tail_len (xs : List Sign) (k : Nat) (x : Sign) : (tail xs k x).length ≤ 1 := by
  unfold tail
  split
  · simp
  · split <;> simp
theorem flat_len (xs : List Sign) : ∀ k, k ≤ xs.length → (flat xs k).length ≤ Strs.tot ((texts xs).take k) + k
  | 0, _ => by simp [flat]
  | k + 1, h => by
    have := flat_len xs k (by omega)
    have ht := tail_len xs k xs[k]
    rw [flat_step (by omega), List.length_append, List.length_append, List.take_succ_eq_append_getElem (by simp; omega), Strs.tot_snoc]
    simp at *
    omega
def flatText (xs : List Sign) (k : Nat) : ByteArray := ⟨(flat xs k).toArray⟩
theorem flat_bound {xs : List Sign} {k : Nat} (h : k < xs.length) (ht : Strs.tot (texts xs) + xs.length ≤ 1099511627776) : (flat xs k).length + xs[k].t.size + 1 ≤ 1099511627776 := by
  have h1 := flat_len xs k (by omega)
  have h2 := Strs.tot_take (texts xs) (k + 1)
  rw [List.take_succ_eq_append_getElem (by simpa using h), Strs.tot_snoc] at h2
  simp at h2
  omega
theorem flatText_size (xs : List Sign) (k : Nat) : (flatText xs k).size = (flat xs k).length := by
  unfold flatText; exact List.size_toArray
theorem bytes_of (l : List UInt8) (s : ByteArray) (r : List UInt8) : (⟨l.toArray⟩ : ByteArray) ++ s ++ ⟨r.toArray⟩ = ⟨(l ++ (s.data.toList ++ r)).toArray⟩ := by
  apply Strs.toList_inj
  simp [ByteArray.toList_eq]
theorem bytes_of0 (l : List UInt8) (s : ByteArray) : (⟨l.toArray⟩ : ByteArray) ++ s = ⟨(l ++ (s.data.toList ++ [])).toArray⟩ := by
  apply Strs.toList_inj
  simp [ByteArray.toList_eq]
set_option maxHeartbeats 1600000 in
theorem spec_Flat {v : Value} {xs : List Sign} {w : World} (h1 : Row w v 4 xs.length (signs xs)) (ht : Strs.tot (texts xs) + xs.length ≤ 1099511627776) :
    Calls Tryd.prog 83 #[v] w fun e w' => e = .returned (.string (flatText xs xs.length)) ∧ w = w' := by
  obtain ⟨A, c, rfl, -, hn, hnc, hcm, ha⟩ := h1
  go_enter Tryd.func83, Tryd.ntmps83
  go_wp2
  go_loop [3, 4] (fun s i => ∃ k : Nat, k ≤ xs.length ∧ i = .int .i64 k ∧ s = .string (flatText xs k)) (fun _ i => xs.length - (intOf i).toNat)
  case atStart => exact ⟨0, by omega, rfl, rfl⟩
  case round =>
    obtain ⟨k, hk, rfl, rfl⟩ := hrel
    by_cases hlt : k < xs.length
    · obtain ⟨b, off, rfl, hb, hc⟩ := ha (by omega)
      obtain ⟨p0, p1, p2, p3⟩ := cells4 hc hlt
      clear hc ha p2 p3
      have hz := flat_bound hlt ht
      rw [← flatText_size] at hz
      have hon := flat_step hlt
      by_cases h5 : xs[k].k = 5
      · have e1 : (xs[k].k == 5) = true := by simpa using h5
        have hst := Lib.hid (show flatText xs k ++ xs[k].t ++ ByteArray.mk #[10] = flatText xs (k + 1) by
          unfold flatText; rw [hon]; unfold tail; rw [if_pos h5]; exact bytes_of _ _ _)
        clear hon h5
        generalize flatText xs k = j at *
        go_wp2
        go_round
        case rel => exact ⟨k + 1, by omega, by go_num, by rw [← hst.out]⟩
        case measure => simp [intOf]; omega
      · have e1 : (xs[k].k == 5) = false := by simpa using h5
        by_cases hl : k + 1 < xs.length
        · have hst := Lib.hid (show flatText xs k ++ xs[k].t ++ ByteArray.mk #[32] = flatText xs (k + 1) by
            unfold flatText; rw [hon]; unfold tail; rw [if_neg h5, if_pos hl]; exact bytes_of _ _ _)
          clear hon h5
          generalize flatText xs k = j at *
          have e2 : decide ((k : Int) + 1 < (xs.length : Int)) = true := by simp; omega
          go_wp2
          go_round
          case rel => exact ⟨k + 1, by omega, by go_num, by rw [← hst.out]⟩
          case measure => simp [intOf]; omega
        · have hst := Lib.hid (show flatText xs k ++ xs[k].t = flatText xs (k + 1) by
            unfold flatText; rw [hon]; unfold tail; rw [if_neg h5, if_neg hl]; exact bytes_of0 _ _)
          clear hon h5
          generalize flatText xs k = j at *
          have e2 : decide ((k : Int) + 1 < (xs.length : Int)) = false := by simp; omega
          go_wp2
          go_round
          case rel => exact ⟨k + 1, by omega, by go_num, by rw [← hst.out]⟩
          case measure => simp [intOf]; omega
    · obtain rfl : k = xs.length := by omega
      go_wp2
      go_ret
      exact ⟨rfl, rfl⟩
theorem isB_below {T e : TypeId} {B b : Nat} {bs : List Value} {w w' : World} (h : Lib.IsBuilderF T e B b bs w) (k : Below w.heap.size w w') : Lib.IsBuilderF T e B b bs w' := by
  have hb : ∀ p, Lib.BuilderAtF T e B b p bs w → Lib.BuilderAtF T e B b p bs w' := by
    rintro p ⟨hB, v, hb, ho, hn⟩
    refine ⟨hB, v, (k.block b (Array.getElem?_eq_some_iff.1 hb).1).trans hb, ?_, hn⟩
    exact ho.kept (row := none) ⟨k.os, k.tape, k.output, k.size, fun i hi _ => k.block i hi⟩ (by cases v.ownBlock <;> simp)
  exact h.imp (hb _) (hb _)
theorem isB_fresh (T e : TypeId) (w : World) : Lib.IsBuilderF T e w.heap.size w.heap.size [] (w.alloc (.cells #[.pointer none, .slice none 0 0] T)) :=
  (Lib.fresh_isBuilder T e w).imp Lib.BuilderAtF.of Lib.BuilderAtF.of
theorem cells_ten (l : List UInt8) (s : ByteArray) : Lib.byteCells l ++ Lib.strCells s ++ [.int .u8 10] = Lib.byteCells (l ++ (s.data.toList ++ [10])) := by
  simp [Lib.byteCells, Lib.strCells]
theorem cells_blank (l : List UInt8) (s : ByteArray) : Lib.byteCells l ++ Lib.strCells s ++ [.int .u8 32] = Lib.byteCells (l ++ (s.data.toList ++ [32])) := by
  simp [Lib.byteCells, Lib.strCells]
theorem cells_none (l : List UInt8) (s : ByteArray) : Lib.byteCells l ++ Lib.strCells s = Lib.byteCells (l ++ (s.data.toList ++ [])) := by
  simp [Lib.byteCells, Lib.strCells]
set_option maxRecDepth 100000 in
set_option maxHeartbeats 1600000 in
theorem impl_Flat {v : Value} {xs : List Sign} {w : World} (h1 : Row w v 4 xs.length (signs xs)) (ht : Strs.tot (texts xs) + xs.length ≤ 1099511627776) :
    Calls Tryd.prog 46 #[v] w fun e w' => e = .returned (.string (flatText xs xs.length)) ∧ Below w.heap.size w w' := by
  obtain ⟨A, c, rfl, -, hn, hnc, hcm, ha⟩ := h1
  go_enter Tryd.func46, Tryd.ntmps46
  go_wp2
  go_loopw [8] (fun i wr => ∃ k : Nat, k ≤ xs.length ∧ i = .int .i64 k ∧ Lib.IsBuilderF 78 5 w.heap.size w.heap.size (Lib.byteCells (flat xs k)) wr ∧ Below w.heap.size w wr) (fun i _ => xs.length - (intOf i).toNat)
  case atStart => exact ⟨0, by omega, rfl, isB_fresh _ _ w, (Below.refl _ _).alloc (Nat.le_refl _) _⟩
  case round =>
    obtain ⟨k, hk, rfl, hB, hbw⟩ := hrel
    have hs := hbw.size
    have hbl : w.heap.size < wr.heap.size := by
      rcases hB with h | h
      · exact h.lt
      · exact h.lt
    by_cases hlt : k < xs.length
    · obtain ⟨b, off, rfl, hb, hc⟩ := ha (by omega)
      obtain ⟨p0, p1, p2, p3⟩ := cells4 (fun j u hu => (cells_of hbw b _ hb).trans (hc j u hu)) hlt
      clear hc ha
      have z3 : b ≠ wr.heap.size := by omega
      have hz := flat_bound hlt ht
      have hon := flat_step hlt
      have hBW := Lib.hid (fun o => isB_below hB ((Below.refl wr.heap.size wr).alloc (Nat.le_refl _) o))
      clear hB
      have l1 := Lib.byteCells_length (flat xs k)
      have l2 := Lib.strCells_length xs[k].t
      by_cases h5 : xs[k].k = 5
      · have e1 : (xs[k].k == 5) = true := by simpa using h5
        have hst := Lib.hid (show flat xs (k + 1) = flat xs k ++ (xs[k].t.data.toList ++ [10]) by rw [hon]; unfold tail; rw [if_pos h5])
        clear hon h5
        generalize flat xs k = j at *
        go_wp2_with fail
        refine (Tryd.Builder_WriteString_k w.heap.size w.heap.size (Lib.byteCells j) xs[k].t _ (hBW.out _) (by omega) (by simp; omega)).mono ?_
        rintro e w1 ⟨rfl, hB1, hb1, ho1⟩
        have hG := ho1 wr.heap.size _ (heap_alloc_new wr _) (by simp; omega) (by intro c fz e; injection e with _ e2 _; cases e2)
        have g0 : w1.cell? ⟨wr.heap.size, 0, none⟩ = some (.int .i64 xs[k].k) := by rw [cell_of_row w1 _ 0 _ _ (0, 0) hG]; rfl
        have hs1 : w.heap.size ≤ w1.heap.size := Nat.le_trans (by simp; omega) hb1.size
        replace hb1 := Lib.hid ((hbw.alloc hs _).trans hb1)
        replace hB1 : Lib.IsBuilderF _ _ _ _ _ w1 := .inr hB1
        clear ho1 hG p0 p1 p2 p3 hbw hBW
        replace hB1 := Lib.hid hB1
        go_wp2_with fail
        refine (Tryd.Builder_WriteByte_k w.heap.size w.heap.size (Lib.byteCells j ++ Lib.strCells xs[k].t) 10 w1 hB1.out (by rw [List.length_append]; omega) hs1).mono ?_
        rintro e w2 ⟨rfl, hB2, hb2, -⟩
        replace hb2 := Lib.hid (hb1.out.trans hb2)
        rw [cells_ten j xs[k].t, ← hst.out] at hB2
        replace hB2 : Hid (Lib.IsBuilderF _ _ _ _ _ w2) := Lib.hid (.inr hB2)
        clear hb1 hB1 g0
        go_wp2
        go_roundw
        case rel => exact ⟨k + 1, by omega, by go_num, hB2.out, hb2.out⟩
        case measure => simp [intOf]; omega
      · have e1 : (xs[k].k == 5) = false := by simpa using h5
        by_cases hl : k + 1 < xs.length
        · have hst := Lib.hid (show flat xs (k + 1) = flat xs k ++ (xs[k].t.data.toList ++ [32]) by rw [hon]; unfold tail; rw [if_neg h5, if_pos hl])
          clear hon h5
          generalize flat xs k = j at *
          have e2 : decide ((k : Int) < (xs.length : Int) - 1) = true := by simp; omega
          go_wp2_with fail
          refine (Tryd.Builder_WriteString_k w.heap.size w.heap.size (Lib.byteCells j) xs[k].t _ (hBW.out _) (by omega) (by simp; omega)).mono ?_
          rintro e w1 ⟨rfl, hB1, hb1, ho1⟩
          have hG := ho1 wr.heap.size _ (heap_alloc_new wr _) (by simp; omega) (by intro c fz e; injection e with _ e2 _; cases e2)
          have g0 : w1.cell? ⟨wr.heap.size, 0, none⟩ = some (.int .i64 xs[k].k) := by rw [cell_of_row w1 _ 0 _ _ (0, 0) hG]; rfl
          have hs1 : w.heap.size ≤ w1.heap.size := Nat.le_trans (by simp; omega) hb1.size
          replace hb1 := Lib.hid ((hbw.alloc hs _).trans hb1)
          replace hB1 : Lib.IsBuilderF _ _ _ _ _ w1 := .inr hB1
          clear ho1 hG p0 p1 p2 p3 hbw hBW
          replace hB1 := Lib.hid hB1
          go_wp2_with fail
          refine (Tryd.Builder_WriteByte_k w.heap.size w.heap.size (Lib.byteCells j ++ Lib.strCells xs[k].t) 32 w1 hB1.out (by rw [List.length_append]; omega) hs1).mono ?_
          rintro e w2 ⟨rfl, hB2, hb2, -⟩
          replace hb2 := Lib.hid (hb1.out.trans hb2)
          rw [cells_blank j xs[k].t, ← hst.out] at hB2
          replace hB2 : Hid (Lib.IsBuilderF _ _ _ _ _ w2) := Lib.hid (.inr hB2)
          clear hb1 hB1 g0
          go_wp2
          go_roundw
          case rel => exact ⟨k + 1, by omega, by go_num, hB2.out, hb2.out⟩
          case measure => simp [intOf]; omega
        · have hst := Lib.hid (show flat xs (k + 1) = flat xs k ++ (xs[k].t.data.toList ++ []) by rw [hon]; unfold tail; rw [if_neg h5, if_neg hl])
          clear hon h5
          generalize flat xs k = j at *
          have e2 : decide ((k : Int) < (xs.length : Int) - 1) = false := by simp; omega
          go_wp2_with fail
          refine (Tryd.Builder_WriteString_k w.heap.size w.heap.size (Lib.byteCells j) xs[k].t _ (hBW.out _) (by omega) (by simp; omega)).mono ?_
          rintro e w1 ⟨rfl, hB1, hb1, ho1⟩
          have hG := ho1 wr.heap.size _ (heap_alloc_new wr _) (by simp; omega) (by intro c fz e; injection e with _ e2 _; cases e2)
          have g0 : w1.cell? ⟨wr.heap.size, 0, none⟩ = some (.int .i64 xs[k].k) := by rw [cell_of_row w1 _ 0 _ _ (0, 0) hG]; rfl
          have hs1 : w.heap.size ≤ w1.heap.size := Nat.le_trans (by simp; omega) hb1.size
          replace hb1 := Lib.hid ((hbw.alloc hs _).trans hb1)
          replace hB1 : Lib.IsBuilderF _ _ _ _ _ w1 := .inr hB1
          clear ho1 hG p0 p1 p2 p3 hbw hBW
          rw [cells_none j xs[k].t, ← hst.out] at hB1
          replace hB1 := Lib.hid hB1
          go_wp2
          go_roundw
          case rel => exact ⟨k + 1, by omega, by go_num, hB1.out, hb1.out⟩
          case measure => simp [intOf]; omega
    · obtain rfl : k = xs.length := by omega
      go_wp2_with fail
      refine (Tryd.Builder_String_any_k w.heap.size w.heap.size (flat xs xs.length) wr hB hs).mono ?_
      rintro e w1 ⟨rfl, -, hb1, -⟩
      go_wp2
      go_ret
      exact ⟨rfl, hbw.trans hb1⟩
end Go.Proofs.YtklhfjeonhjobaaDoor.Sign

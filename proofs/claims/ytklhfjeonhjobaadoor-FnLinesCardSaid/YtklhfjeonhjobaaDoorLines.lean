/-
  The contracts of impl.LinesOf and spec.LinesOf: the text cut at each byte 10, an empty last piece left out.
  Conditions: a text of 2^20 bytes at most; the library's variable holds some number.
-/
import Derived.Test.YtklhfjeonhjobaaDoorChecked
import Derived.Test.YtklhfjeonhjobaaDoorShelf
import Derived.Test.YtklhfjeonhjobaaDoorCut
import Derived.Test.YtklhfjeonhjobaaDoorStrs
import Derived.Test.YtklhfjeonhjobaaDoorOwns
namespace Go.Proofs.YtklhfjeonhjobaaDoor.Lines
open Go.RowKit Go.Proofs.YtklhfjeonhjobaaDoor.Row Go.Proofs.YtklhfjeonhjobaaDoor.Mem Go.Proofs.YtklhfjeonhjobaaDoor.Mix Go.Proofs.YtklhfjeonhjobaaDoor.Strs Go.Proofs.YtklhfjeonhjobaaDoor.Owns Go.Proofs.YtklhfjeonhjobaaDoor.Cut
def lines (s : ByteArray) : List ByteArray := if ((pieces 10 s).getLast?.getD ByteArray.empty).size = 0 then (pieces 10 s).dropLast else pieces 10 s
theorem strs_snoc (l : List ByteArray) (s : ByteArray) : strs l ++ [.string s] = strs (l ++ [s]) := by simp [strs]
theorem own_empty (w : World) (e : TypeId) (size : Nat) : (w.alloc (.cells #[] e)).ownsRow w.heap.size e size (.slice (some ⟨w.heap.size, 0, none⟩) 0 0) 0 [] :=
  ⟨by simp, .inr ⟨w.heap.size, 0, #[], rfl, Nat.le_refl _, heap_alloc_new w _, by omega, by simp [maxLen], by simp, by simp⟩⟩
theorem own_made (w : World) (e : TypeId) (xs : List ByteArray) (n : Nat) (hn : n ≤ xs.length) (hm : xs.length ≤ 9223372036854775807) :
    (w.alloc (.cells (xs.map Value.string).toArray e)).ownsRow w.heap.size e 1 (.slice (some ⟨w.heap.size, 0, none⟩) n xs.length) n (strs (xs.take n)) :=
  ⟨by simp [strs, Nat.min_eq_left hn], .inr ⟨w.heap.size, xs.length, _, rfl, Nat.le_refl _, heap_alloc_new w _, hn, by simpa [maxLen] using hm, by simp, by simp [strs, List.map_take]⟩⟩
theorem toList_nil {s : ByteArray} : s.toList = [] ↔ s.size = 0 := by
  rw [ByteArray.toList_eq]
  constructor
  · intro h
    have : s.data.toList.length = 0 := by rw [h]; rfl
    simpa using this
  · intro h
    exact List.eq_nil_of_length_eq_zero (by simpa using h)
theorem lines_drop {s : ByteArray} {xs : List ByteArray} {x : ByteArray} (h : pieces 10 s = xs ++ [x]) (hx : x.size = 0) : lines s = xs := by
  unfold lines; rw [h]; simp [hx]
theorem lines_keep {s : ByteArray} {xs : List ByteArray} {x : ByteArray} (h : pieces 10 s = xs ++ [x]) (hx : x.size ≠ 0) : lines s = xs ++ [x] := by
  unfold lines; rw [h]; simp [hx]
theorem pieces_split (s : ByteArray) : ∃ xs x, pieces 10 s = xs ++ [x] ∧ xs.length = Lib.countB s ⟨#[10]⟩ := by
  have hl := pieces_len 10 s
  refine ⟨(pieces 10 s).dropLast, (pieces 10 s).getLast (by intro e; rw [e] at hl; simp at hl), (List.dropLast_concat_getLast _).symm, by simp [hl]⟩
theorem count_bd (s : ByteArray) : Lib.countB s ⟨#[10]⟩ ≤ s.size := Lib.countB_le _ (by show 1 ≤ 1; omega) _ s (Nat.le_refl _)
set_option maxRecDepth 100000 in
set_option maxHeartbeats 1600000 in
theorem impl_Lines (s : ByteArray) (hs : s.size ≤ 1048576) {w : World} (hm : ∃ m, w.cell? ⟨0, 0, none⟩ = some (.int .i64 m)) :
    Calls Tryd.prog 29 #[.string s] w fun e w' => ∃ v', e = .returned v' ∧ w'.ownsRow w.heap.size 9 1 v' (lines s).length (strs (lines s)) ∧ Below w.heap.size w w' := by
  obtain ⟨m, hm⟩ := hm
  obtain ⟨xs, x, hp, hxl⟩ := pieces_split s
  have hcb := count_bd s
  have hc := Lib.hid (Tryd.strings_Split s ⟨#[10]⟩ m w (by omega) hm (by show 1 ≤ 1; omega))
  rw [show Lib.splitB ⟨#[10]⟩ 0 (Lib.countB s ⟨#[10]⟩) s = xs ++ [x] from hp, ← hxl] at hc
  rw [← hxl] at hcb
  have hlen : (xs ++ [x]).length = xs.length + 1 := by simp
  have ho := own_made w 9 (xs ++ [x]) (xs.length + 1) (by omega) (by rw [hlen]; omega)
  have ho2 := own_made w 9 (xs ++ [x]) xs.length (by omega) (by rw [hlen]; omega)
  have hcell : (w.alloc (.cells ((xs ++ [x]).map Value.string).toArray 9)).cell? ⟨w.heap.size, xs.length, none⟩ = some (.string x) := by
    rw [cell_of_row _ _ _ _ _ (0, 0) (heap_alloc_new w _)]; simp
  rw [hlen] at ho ho2
  have hb := (Below.refl w.heap.size w).alloc (Nat.le_refl _) (.cells ((xs ++ [x]).map Value.string).toArray 9)
  generalize hW : w.alloc (.cells ((xs ++ [x]).map Value.string).toArray 9) = W at hc ho ho2 hcell hb
  clear hW hm hlen
  replace hxl := Lib.hid hxl
  have e1 : ((xs.length + 1 : Nat) : Int) = (xs.length : Int) + 1 := by omega
  by_cases hx : x.size = 0
  · have hv := Lib.hid (lines_drop hp hx)
    have hx0 : x.toList = [] := toList_nil.2 hx
    rw [List.take_left'] at ho2
    replace ho2 := Lib.hid ho2
    rw [hv.out]
    clear ho hp
    replace hx := Lib.hid hx
    go_enter Tryd.func29, Tryd.ntmps29
    go_wp2_with fail
    refine hc.out.mono ?_
    rintro e w1 ⟨rfl, rfl⟩
    go_wp2
    go_ret
    exact ⟨_, rfl, ho2.out, hb⟩
    rfl
  · have hv := Lib.hid (lines_keep hp hx)
    have hx0 : ¬ x.toList = [] := fun e => hx (toList_nil.1 e)
    have hx1 : x.toList.isEmpty = false := by simpa using hx0
    rw [List.take_of_length_le (by simp)] at ho
    replace ho := Lib.hid ho
    rw [hv.out]
    clear ho2 hp
    replace hx := Lib.hid hx
    go_enter Tryd.func29, Tryd.ntmps29
    go_wp2_with fail
    refine hc.out.mono ?_
    rintro e w1 ⟨rfl, rfl⟩
    go_wp2
    go_ret
    exact ⟨_, rfl, by simpa using ho.out, hb⟩
end Go.Proofs.YtklhfjeonhjobaaDoor.Lines

/-
  The contracts of the reference's further draws: l01Once, l01Pick, l01PickInt, l01Long, l01Number, l03Text and the draws of the lines.
  Conditions: the code that is drawn from reads as bytes; a list that is picked from lies in a block of its own.
-/
import Derived.Test.YtlakellmdcdaaaaDraw
namespace Go.Proofs.Ytlakellmdcdaaaa.Draw
open Go.RowKit Go.Proofs.Ytlakellmdcdaaaa.Row Go.Proofs.Ytlakellmdcdaaaa.Mem Go.Proofs.Ytlakellmdcdaaaa.Mix Go.Proofs.Ytlakellmdcdaaaa.Owns Go.Proofs.Ytlakellmdcdaaaa.Blocks
theorem once_any {w : World} {c : Value} {g : Nat} (hc : Cur w c g) (n : Int) :
    Calls Try.prog 117 #[c, .int .i64 n] w fun e w' => ∃ b : Bool, e = .returned (.bool b) ∧ Cur w' c g ∧ Keep g w w' := by
  go_enter Try.func117, Try.ntmps117
  go_wp2_with fail
  refine (below_any hc n).mono ?_
  rintro e w1 ⟨x, -, -, -, rfl, c1, k1⟩
  clear hc
  go_wp2
  go_ret
  exact ⟨x == 0, rfl, c1, k1⟩
/-- a list in a block of its own -/
theorem list_at {w : World} {b : Nat} {arr : Array Value} {e : TypeId} {fr : Nat × Nat} (h : w.heap[b]? = some (.cells arr e fr)) (j : Nat) (u : Value) (hu : arr[j]? = some u) : w.cell? ⟨b, j, none⟩ = some u := by
  unfold World.cell?; rw [h]; simpa using hu
set_option maxHeartbeats 800000 in
/-- one of the texts of a list -/
theorem pick_any {w : World} {c : Value} {g : Nat} (hc : Cur w c g) (b : Nat) (xs : List ByteArray) (n : Nat) (e : TypeId) (fr : Nat × Nat) (hb : w.heap[b]? = some (.cells (xs.map Value.string).toArray e fr)) (hne : b ≠ g) (hn : xs.length = n) (h0 : 0 < n) (hm : n ≤ 1000) :
    Calls Try.prog 118 #[c, .slice (some ⟨b, 0, none⟩) n n] w fun e w' => ∃ s ∈ xs, e = .returned (.string s) ∧ Cur w' c g ∧ Keep g w w' := by
  have hbl := blk_lt hb
  go_enter Try.func118, Try.ntmps118
  go_wp2_with fail
  refine (below_any hc n).mono ?_
  rintro e w1 ⟨x, x0, x1, -, rfl, c1, k1⟩
  have x2 := x1 (by omega)
  clear x1
  obtain ⟨m, rfl⟩ := Int.eq_ofNat_of_zero_le x0
  have hmx : m < xs.length := by omega
  have c0 : w1.cell? ⟨b, m, none⟩ = some (.string xs[m]) := (k1.cell hbl hne).trans (list_at hb m _ (by simp [hmx]))
  have hmem : xs[m] ∈ xs := List.getElem_mem hmx
  generalize xs[m] = s at c0 hmem
  have hmem := Lib.hid hmem
  clear hc hb hmx
  go_wp2
  go_ret
  exact ⟨s, hmem.out, rfl, c1, k1⟩
set_option maxHeartbeats 800000 in
/-- one of the numbers of a list -/
theorem pickInt_any {w : World} {c : Value} {g : Nat} (hc : Cur w c g) (b : Nat) (xs : List Int) (n : Nat) (e : TypeId) (fr : Nat × Nat) (hb : w.heap[b]? = some (.cells (xs.map (Value.int .i64)).toArray e fr)) (hne : b ≠ g) (hn : xs.length = n) (h0 : 0 < n) (hm : n ≤ 1000) :
    Calls Try.prog 95 #[c, .slice (some ⟨b, 0, none⟩) n n] w fun e w' => ∃ s ∈ xs, e = .returned (.int .i64 s) ∧ Cur w' c g ∧ Keep g w w' := by
  have hbl := blk_lt hb
  go_enter Try.func95, Try.ntmps95
  go_wp2_with fail
  refine (below_any hc n).mono ?_
  rintro e w1 ⟨x, x0, x1, -, rfl, c1, k1⟩
  have x2 := x1 (by omega)
  clear x1
  obtain ⟨m, rfl⟩ := Int.eq_ofNat_of_zero_le x0
  have hmx : m < xs.length := by omega
  have c0 : w1.cell? ⟨b, m, none⟩ = some (.int .i64 xs[m]) := (k1.cell hbl hne).trans (list_at hb m _ (by simp [hmx]))
  have hmem : xs[m] ∈ xs := List.getElem_mem hmx
  generalize xs[m] = s at c0 hmem
  have hmem := Lib.hid hmem
  clear hc hb hmx
  go_wp2
  go_ret
  exact ⟨s, hmem.out, rfl, c1, k1⟩
theorem str_alloc (W : World) (cells : Array Value) (e : TypeId) (fr : Nat × Nat) : (W.alloc (.cells cells e fr)).heap[W.heap.size]? = some (.cells cells e fr) := heap_alloc_new W _
/-
  The contracts of the reference's draws of numbers and of texts of bytes: l01Long, l01Number, DrawVarText, DrawHex.
  Conditions: the code that is drawn from reads as bytes.
-/
namespace Go.Proofs.Ytlakellmdcdaaaa.Draw
open Go.RowKit Go.Proofs.Ytlakellmdcdaaaa.Row Go.Proofs.Ytlakellmdcdaaaa.Mem Go.Proofs.Ytlakellmdcdaaaa.Mix Go.Proofs.Ytlakellmdcdaaaa.Owns Go.Proofs.Ytlakellmdcdaaaa.Blocks
end Go.Proofs.Ytlakellmdcdaaaa.Draw

/-
  The contracts of the laws' helpers over Split: copied, compared, marked.
  Conditions: the slices read as lists of these records.
-/
import Derived.Test.YtlakellmdcdaaaaRecs
import Derived.Test.YtlakellmdcdaaaaInts
import Derived.Test.YtlakellmdcdaaaaStrs
import Derived.Test.YtlakellmdcdaaaaOwns
namespace Go.Proofs.Ytlakellmdcdaaaa.Split
open Go.RowKit Go.Proofs.Ytlakellmdcdaaaa.Row Go.Proofs.Ytlakellmdcdaaaa.Mem Go.Proofs.Ytlakellmdcdaaaa.Mix Go.Proofs.Ytlakellmdcdaaaa.Recs Go.Proofs.Ytlakellmdcdaaaa.Owns
structure T where
  r : Int
  f : Int
  s : Bool
  n : Int
deriving DecidableEq
instance : Inhabited T := ⟨⟨0, 0, false, 0⟩⟩
def T.cells (x : T) : List Value := [.int .i64 x.r, .int .i64 x.f, .bool x.s, .int .i64 x.n]
abbrev val (x : T) : Value := .agg #[.int .i64 x.r, .int .i64 x.f, .bool x.s, .int .i64 x.n]
abbrev cs (xs : List T) : List Value := xs.flatMap T.cells
theorem cells_len (x : T) : x.cells.length = 4 := rfl
theorem at_ {xs : List T} {i : Nat} (h : i < xs.length) : (cs xs)[i * 4 + 0]? = some (.int .i64 xs[i].r) ∧ (cs xs)[i * 4 + 1]? = some (.int .i64 xs[i].f) ∧ (cs xs)[i * 4 + 2]? = some (.bool xs[i].s) ∧ (cs xs)[i * 4 + 3]? = some (.int .i64 xs[i].n) :=
  ⟨flat_at cells_len xs i 0 h (by omega), flat_at cells_len xs i 1 h (by omega), flat_at cells_len xs i 2 h (by omega), flat_at cells_len xs i 3 h (by omega)⟩
theorem cells_ {w : World} {b off : Nat} {xs : List T} (hc : ∀ j u, (cs xs)[j]? = some u → w.cell? ⟨b, off + j, none⟩ = some u) {i : Nat} (h : i < xs.length) :
    w.cell? ⟨b, off + i * 4, none⟩ = some (.int .i64 xs[i].r) ∧ w.cell? ⟨b, off + i * 4 + 1, none⟩ = some (.int .i64 xs[i].f) ∧ w.cell? ⟨b, off + i * 4 + 2, none⟩ = some (.bool xs[i].s) ∧ w.cell? ⟨b, off + i * 4 + 3, none⟩ = some (.int .i64 xs[i].n) := by
  obtain ⟨a0, a1, a2, a3⟩ := at_ h
  exact ⟨hc _ _ a0, hc _ _ a1, hc _ _ a2, hc _ _ a3⟩
set_option maxRecDepth 100000 in
set_option maxHeartbeats 400000 in
theorem to_one (x : T) (w : World) : Calls Try.prog 122 #[val x] w fun e w' => e = .returned (val x) ∧ Below w.heap.size w w' := by
  obtain ⟨r, f, s, n⟩ := x
  go_enter Try.func122, Try.ntmps122
  go_wp2
  refine bodyPost_ret (v := val ⟨r, f, s, n⟩) (by simp [results, Try.results122, go_sem]) rfl ⟨rfl, ?_⟩
  repeat (first | exact Below.refl _ _ | refine Below.setCell ?_ (by simp <;> omega) _ | refine Below.alloc ?_ (by simp <;> omega) _)
set_option maxRecDepth 100000 in
set_option maxHeartbeats 800000 in
theorem eq_one (x y : T) (w : World) : Calls Try.prog 123 #[val x, val y] w fun e w' => e = .returned (.bool (decide (x = y))) ∧ Below w.heap.size w w' := by
  obtain ⟨r, f, s, n⟩ := x
  obtain ⟨r2, f2, s2, n2⟩ := y
  go_enter Try.func123, Try.ntmps123
  go_wp2
  all_goals
    go_ret
    refine ⟨by simp_all [Strs.toList_iff], ?_⟩
    repeat (first | exact Below.refl _ _ | assumption | refine Below.setCell ?_ (by first | omega | (simp <;> omega)) _ | refine Below.alloc ?_ (by first | omega | (simp <;> omega)) _ | refine Below.drew ?_)
end Go.Proofs.Ytlakellmdcdaaaa.Split

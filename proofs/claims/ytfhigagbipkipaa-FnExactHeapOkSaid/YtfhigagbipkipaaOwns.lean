/-
  Slices of a call's own, written in place: what stays, what is then read; small words on sizes.
  Conditions: none.
-/
import Derived.Test.YtfhigagbipkipaaRow
import Derived.Test.YtfhigagbipkipaaMem
namespace Go.Proofs.Ytfhigagbipkipaa.Owns
open Go.RowKit Go.Proofs.Ytfhigagbipkipaa.Row Go.Proofs.Ytfhigagbipkipaa.Mem
theorem take_eq {α : Type} {xs ys : List α} {k : Nat} (h1 : k < xs.length) (h2 : k < ys.length) (h : xs.take k = ys.take k) (he : xs[k] = ys[k]) : xs.take (k + 1) = ys.take (k + 1) := by
  rw [List.take_succ_eq_append_getElem h1, List.take_succ_eq_append_getElem h2, h, he]
theorem get_eq {α : Type} {xs ys : List α} (h : xs = ys) {k : Nat} (h1 : k < xs.length) (h2 : k < ys.length) : xs[k] = ys[k] := by subst h; rfl
def szi (n : Nat) (left : Int) : Int := if (n : Int) ≤ left then left - n else -1
theorem szi_cases (n : Nat) (left : Int) (h0 : 0 ≤ left) : (∃ r : Int, szi n left = r ∧ 0 ≤ r ∧ r ≤ left ∧ (n : Int) ≤ left) ∨ szi n left = -1 := by
  unfold szi
  split
  · exact .inl ⟨_, rfl, by omega, by omega, by omega⟩
  · exact .inr rfl
section
variable {w w' : World} {v : Value} {e size g n cap k base : Nat} {cs : List Value}
theorem owns_fill (h : w.ownsRow base e size v n cs) :
    (n = 0 ∧ v = .slice none 0 0 ∧ cs = []) ∨ ∃ g cap, v = .slice (some ⟨g, 0, none⟩) n cap ∧ base ≤ g ∧ n ≤ cap ∧ cap ≤ maxLen ∧ Fill w g e size cap 0 [] := by
  obtain ⟨hl, h2⟩ := h
  rcases h2 with ⟨rfl, rfl⟩ | ⟨g, cap, cur, rfl, hb, hg, hnc, hcm, hcs, ht⟩
  · exact .inl ⟨rfl, rfl, List.eq_nil_of_length_eq_zero (by simpa using hl)⟩
  · exact .inr ⟨g, cap, rfl, hb, hnc, hcm, cur, hg, hcs, by simp, by omega, by simp⟩
theorem owns_of_fill {pre : List Value} (hf : Fill w g e size cap n pre) (hg : base ≤ g) (hnc : n ≤ cap) (hcm : cap ≤ maxLen) : w.ownsRow base e size (.slice (some ⟨g, 0, none⟩) n cap) n pre := by
  obtain ⟨arr, h1, h2, h3, h4, h5⟩ := hf
  exact ⟨h3, .inr ⟨g, cap, arr, rfl, hg, h1, hnc, hcm, h2, h5⟩⟩
theorem grown_setAll : ∀ (us : List Value) {a w : World} (o : Nat), a.grownBy w (some g) → a.grownBy (setAll w g o us) (some g)
  | [], _, _, _, h => h
  | u :: us, a, w, o, h => grown_setAll us (o + 1) ⟨h.os, h.tape, h.output, by simpa [World.setCell] using h.size, fun i hi hn => (Below.heap_setCell w ⟨g, o, none⟩ u i (fun e => hn (by rw [e]))).trans (h.block i hi hn)⟩
theorem own_owns (h : Own w v e size g n cs) : w.ownsRow g e size v n cs := by
  obtain ⟨rfl, h1, h2, h3⟩ := h
  exact ⟨h1, .inr ⟨g, n, cs.toArray, rfl, Nat.le_refl _, h3, Nat.le_refl _, by simp only [maxLen]; omega, by simpa using h1, by simp [← h1]⟩⟩
end
end Go.Proofs.Ytfhigagbipkipaa.Owns

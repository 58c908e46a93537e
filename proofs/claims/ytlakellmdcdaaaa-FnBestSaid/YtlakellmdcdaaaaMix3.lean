/-
  A region that draws its order, walked once; the class is kept by every operation, so that no more is asked of the order than that it serves.
  Conditions: the order that is walked is given as a list, and a Bool (decided by the kernel) says that it serves.
-/
import Derived.Test.YtlakellmdcdaaaaMix
namespace Go.Proofs.Ytlakellmdcdaaaa.Mix
open Go.RowKit
section
variable {P : Program} {ops : Array Oper} {Q : Exit → Act → World → Prop} {md : Region.Mode} {S : World → Prop}
def wpAny3 (P : Program) (md : Region.Mode) (ops : Array Oper) (Q : Exit → Act → World → Prop) (S : World → Prop) : Nat → Array Bool → Act → World → Prop
  | 0, listed, a, w => Region.ready md ops listed = [] ∧ Q .normal a w
  | fuel + 1, listed, a, w =>
    (Region.ready md ops listed = [] → Q .normal a w) ∧
    ∀ i ∈ Region.ready md ops listed, wpOp P ops Q i (fun a' w' => (S w → S w') ∧ wpAny3 P md ops Q S fuel (listed.setIfInBounds i true) a' w') a w
theorem wpAny_of_3 : ∀ (fuel : Nat) (listed : Array Bool) (a : Act) (w : World), wpAny3 P md ops Q S fuel listed a w → wpAny P md ops Q fuel listed a w
  | 0, _, _, _, h => h
  | fuel + 1, _, _, _, h => ⟨h.1, fun i hi => wpOp_mono (fun a' w' h' => wpAny_of_3 fuel _ a' w' h'.2) (h.2 i hi)⟩
theorem wpAny3_first {i : Nat} {oi : Oper} {v : Value} (hi : ops[i]? = some oi) (hsel : ∀ (j : Nat) (o : Oper) cs b, ops[j]? = some o → o.op ≠ .select cs b)
    (hQ : ∀ c a w, Q (.panic c) (a.put oi.dst v) w → Q (.panic c) a w) :
    ∀ (fuel : Nat) (listed : Array Bool) (a : Act) (w : World), DC md ops listed →
      (∀ j oj, ops[j]? = some oj → j ≠ i → listed.getD j true = false → (∀ e ∈ oj.after, Region.binds md e = true → e.on ≠ i) → oi.apart ops oj = true) →
      i ∈ Region.ready md ops listed → YieldsIf P ops S oi v a → S w →
      wpAny3 P md ops Q S fuel (listed.setIfInBounds i true) (a.put oi.dst v) w → wpAny3 P md ops Q S (fuel + 1) listed a w := by
  intro fuel
  induction fuel with
  | zero =>
    intro listed a w _ _ hr hy hS H
    refine ⟨fun h => (by rw [h] at hr; cases hr), fun j hj => ?_⟩
    by_cases hji : j = i
    · subst hji; exact hy.wpOp hi hS ⟨fun h => h, H⟩
    · have := ready_mono hj hji
      rw [H.1] at this
      cases this
  | succ fuel ih =>
    intro listed a w hdc hfree hr hy hS H
    refine ⟨fun h => (by rw [h] at hr; cases hr), fun j hj => ?_⟩
    by_cases hji : j = i
    · subst hji; exact hy.wpOp hi hS ⟨fun h => h, H⟩
    · have h1 := H.2 j (ready_mono hj hji)
      obtain ⟨hjun, oj, hoj, hall⟩ := mem_ready.1 hj
      have hnot : ∀ e ∈ oj.after, Region.binds md e = true → e.on ≠ i := fun e he hb heq => by
        have h1 := hall e he hb
        have h0 := (mem_ready.1 hr).1
        rw [heq] at h1
        rcases Nat.lt_or_ge i listed.size with h' | h'
        · simp [h'] at h0 h1; rw [h0] at h1; cases h1
        · simp [Array.getElem?_eq_none h'] at h1
      have h2 := wpOp_putIf hoj (hfree j oj hoj hji hjun hnot) (fun cs b => hsel i oi cs b hi) (fun cs b => hsel j oj cs b hoj) hQ hy h1
      have hfree' : ∀ k ok, ops[k]? = some ok → k ≠ i → (listed.setIfInBounds j true).getD k true = false →
          (∀ e ∈ ok.after, Region.binds md e = true → e.on ≠ i) → oi.apart ops ok = true := fun k ok hk hki hun hno => by
        refine hfree k ok hk hki ?_ hno
        by_cases hjk : j = k
        · subst hjk; exact hjun
        · rw [getD_set_ne true hjk] at hun; exact hun
      refine wpOp_mono (fun a' w' h3 => ⟨h3.2.1, ih (listed.setIfInBounds j true) a' w' (hdc.set_ hj) hfree' (ready_mono hr (Ne.symm hji)) h3.1 (h3.2.1 hS) ?_⟩) h2
      rw [Array.setIfInBounds_comm _ _ hji]
      exact h3.2.2
def wpMix3 (P : Program) (ops : Array Oper) (Q : Exit → Act → World → Prop) (S : World → Prop) : List (Nat × Bool) → Act → World → Prop
  | [], a, w => Q .normal a w
  | (i, true) :: r, a, w => ∃ o v, ops[i]? = some o ∧ YieldsIf P ops S o v a ∧ wpMix3 P ops Q S r (a.put o.dst v) w
  | (i, false) :: r, a, w => wpOp P ops Q i (fun a' w' => S w' ∧ wpMix3 P ops Q S r a' w') a w
def mixB3 (md : Region.Mode) (ops : Array Oper) : List (Nat × Bool) → Array Bool → Bool
  | [], listed => (Region.ready md ops listed).isEmpty
  | (i, true) :: r, listed => Region.free md ops listed i && (Region.ready md ops listed).contains i && mixB3 md ops r (listed.setIfInBounds i true)
  | (i, false) :: r, listed => Region.ready md ops listed == [i] && mixB3 md ops r (listed.setIfInBounds i true)
theorem wpAny3_of_mix (hs : Region.noSelect ops = true) (hQ : ∀ d v c a w, Q (.panic c) (Act.put a d v) w → Q (.panic c) a w) :
    ∀ (r : List (Nat × Bool)) (listed : Array Bool) (a : Act) (w : World), DC md ops listed → mixB3 md ops r listed = true → S w →
      wpMix3 P ops Q S r a w → wpAny3 P md ops Q S r.length listed a w
  | [], listed, a, w, _, hB, _, h => ⟨by simpa [mixB3] using hB, h⟩
  | (i, true) :: r, listed, a, w, hdc, hB, hS, h => by
    simp only [mixB3, Bool.and_eq_true] at hB
    obtain ⟨⟨h2, h3⟩, h4⟩ := hB
    obtain ⟨o, v, ho, hy, hn⟩ := h
    exact wpAny3_first ho (Region.noSelect_spec hs) (hQ _ _) r.length listed a w hdc (Region.free_spec ho h2) (by simpa using h3) hy hS
      (wpAny3_of_mix hs hQ r _ _ w (hdc.set_ (by simpa using h3)) h4 hS hn)
  | (i, false) :: r, listed, a, w, hdc, hB, hS, h => by
    simp only [mixB3, Bool.and_eq_true, beq_iff_eq] at hB
    obtain ⟨h1, h3⟩ := hB
    refine ⟨fun h0 => (by rw [h1] at h0; cases h0), fun j hj => ?_⟩
    rw [h1] at hj
    obtain rfl : j = i := by simpa using hj
    exact wpOp_mono (fun a' w' h' => ⟨fun _ => h'.1, wpAny3_of_mix hs hQ r _ _ w' (hdc.set_ (by rw [h1]; simp)) h3 h'.1 h'.2⟩) h
/-- A REGION THAT DRAWS ITS ORDER, every operation keeps the class. -/
theorem wp_region_mix3 {id : Nat} {l : List Oper} {a : Act} {w : World} (S : World → Prop) (r : List (Nat × Bool)) (hm : P.follows .mixedOrders = true)
    (hB : (Region.noSelect l.toArray && (r.length == l.length) && mixB3 .any l.toArray r (Array.replicate l.length false)) = true)
    (hQ : ∀ d v c a w, Q (.panic c) (Act.put a d v) w → Q (.panic c) a w) (hS : S w.drew)
    (h : wpMix3 P l.toArray Q S r a w.drew) : (Code.region id l.toArray true).wp P Q a w := by
  simp only [Bool.and_eq_true, beq_iff_eq] at hB
  obtain ⟨⟨h1, h2⟩, h3⟩ := hB
  refine wp_region_any hm (wpAny_of_3 _ _ _ _ (S := S) ?_)
  have := wpAny3_of_mix (md := .any) h1 hQ r (Array.replicate l.length false) a w.drew (fun j o _ hj => by
    rcases Nat.lt_or_ge j l.length with h' | h' <;> simp [h'] at hj) h3 hS h
  rw [h2] at this
  simpa using this
theorem mix3_nil {a : Act} {w : World} (h : Q .normal a w) : wpMix3 P ops Q S [] a w := h
theorem mix3_still {i : Nat} {o : Oper} {r : List (Nat × Bool)} {a : Act} {w : World} (ho : ops[i]? = some o) (hw : Region.wanted o (yielded ops a.tmps) = true)
    (h : ∃ v, (∀ w', S w' → (execOp a.eval o).run P w' = .ok (.value v) w') ∧ wpMix3 P ops Q S r (a.put o.dst v) w) : wpMix3 P ops Q S ((i, true) :: r) a w :=
  let ⟨v, hy, hn⟩ := h
  ⟨o, v, ho, .inl ⟨hw, hy⟩, hn⟩
theorem mix3_loud {i : Nat} {o : Oper} {r : List (Nat × Bool)} {a : Act} {w : World} (ho : ops[i]? = some o)
    (h : ∀ K : Act → World → Prop, (∀ a' w', S w' → wpMix3 P ops Q S r a' w' → K a' w') →
      if Region.wanted o (yielded ops a.tmps) then o.wp P a w K Q else K (a.put o.dst undef) w) : wpMix3 P ops Q S ((i, false) :: r) a w := by
  have := h (fun a' w' => S w' ∧ wpMix3 P ops Q S r a' w') (fun a' w' h1 h2 => ⟨h1, h2⟩)
  show wpOp P ops Q i _ a w
  unfold wpOp
  simp only [ho]
  split
  · rename_i hw; rw [if_pos hw] at this; exact .inl this
  · rename_i hw; rw [if_neg hw] at this; exact this
end
theorem wp_region_below3 {P : Program} {Q : Exit → Act → World → Prop} {id : Nat} {l : List Oper} {a : Act} {w : World} (r : List (Nat × Bool)) (hm : P.follows .mixedOrders = true)
    (hB : (Region.noSelect l.toArray && (r.length == l.length) && mixB3 .any l.toArray r (Array.replicate l.length false)) = true)
    (hQ : ∀ d v c a w, Q (.panic c) (Act.put a d v) w → Q (.panic c) a w)
    (h : wpMix3 P l.toArray Q (fun w' => Below w.heap.size w w') r a w.drew) : (Code.region id l.toArray true).wp P Q a w :=
  wp_region_mix3 _ r hm hB hQ (to_drew _ _) h
end Go.Proofs.Ytlakellmdcdaaaa.Mix

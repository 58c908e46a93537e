/-
  A region that draws its order, walked once, with three kinds of operations: loud (0), still in every world of the class (1), still in every world at all (2).
  Conditions: the order that is walked is given as a list, and a Bool (decided by the kernel) says that it serves.
-/
import Derived.Test.YtocplbhgklfgeaaMix
namespace Go.Proofs.Ytocplbhgklfgeaa.Mix
open Go.RowKit
section
variable {P : Program} {ops : Array Oper} {Q : Exit → Act → World → Prop} {md : Region.Mode} {S : World → Prop} {st : List Nat}
def wpAny2 (P : Program) (md : Region.Mode) (ops : Array Oper) (Q : Exit → Act → World → Prop) (S : World → Prop) (st : List Nat) : Nat → Array Bool → Act → World → Prop
  | 0, listed, a, w => Region.ready md ops listed = [] ∧ Q .normal a w
  | fuel + 1, listed, a, w =>
    (Region.ready md ops listed = [] → Q .normal a w) ∧
    ∀ i ∈ Region.ready md ops listed, wpOp P ops Q i (fun a' w' => (S w → needs md ops st i = true → S w') ∧ wpAny2 P md ops Q S st fuel (listed.setIfInBounds i true) a' w') a w
theorem wpAny_of_2 : ∀ (fuel : Nat) (listed : Array Bool) (a : Act) (w : World), wpAny2 P md ops Q S st fuel listed a w → wpAny P md ops Q fuel listed a w
  | 0, _, _, _, h => h
  | fuel + 1, _, _, _, h => ⟨h.1, fun i hi => wpOp_mono (fun a' w' h' => wpAny_of_2 fuel _ a' w' h'.2) (h.2 i hi)⟩
/-- an operation that is still in every world of the class T; T is S, or every world -/
theorem wpAny2_first {T : World → Prop} {i : Nat} {oi : Oper} {v : Value} (hi : ops[i]? = some oi) (hT : (T = S ∧ i ∈ st) ∨ ∀ w, T w) (hsel : ∀ (j : Nat) (o : Oper) cs b, ops[j]? = some o → o.op ≠ .select cs b)
    (hQ : ∀ c a w, Q (.panic c) (a.put oi.dst v) w → Q (.panic c) a w) :
    ∀ (fuel : Nat) (listed : Array Bool) (a : Act) (w : World), DC md ops listed →
      (∀ j oj, ops[j]? = some oj → j ≠ i → listed.getD j true = false → (∀ e ∈ oj.after, Region.binds md e = true → e.on ≠ i) → oi.apart ops oj = true) →
      i ∈ Region.ready md ops listed → YieldsIf P ops T oi v a → T w →
      wpAny2 P md ops Q S st fuel (listed.setIfInBounds i true) (a.put oi.dst v) w → wpAny2 P md ops Q S st (fuel + 1) listed a w := by
  intro fuel
  induction fuel with
  | zero =>
    intro listed a w _ _ hr hy hS H
    refine ⟨fun h => (by rw [h] at hr; cases hr), fun j hj => ?_⟩
    by_cases hji : j = i
    · subst hji; exact hy.wpOp hi hS ⟨fun h _ => h, H⟩
    · have := ready_mono hj hji
      rw [H.1] at this
      cases this
  | succ fuel ih =>
    intro listed a w hdc hfree hr hy hS H
    refine ⟨fun h => (by rw [h] at hr; cases hr), fun j hj => ?_⟩
    by_cases hji : j = i
    · subst hji; exact hy.wpOp hi hS ⟨fun h _ => h, H⟩
    · have h1 := H.2 j (ready_mono hj hji)
      obtain ⟨hjun, oj, hoj, hall⟩ := mem_ready.1 hj
      have hnot : ∀ e ∈ oj.after, Region.binds md e = true → e.on ≠ i := fun e he hb heq => by
        have h1 := hall e he hb
        have h0 := (mem_ready.1 hr).1
        rw [heq] at h1
        rcases Nat.lt_or_ge i listed.size with h' | h'
        · simp [h'] at h0 h1; rw [h0] at h1; cases h1
        · simp [Array.getElem?_eq_none h'] at h1
      have hun : listed.getD i false = false := by
        have h0 := (mem_ready.1 hr).1
        rcases Nat.lt_or_ge i listed.size with h' | h'
        · simp [h'] at h0 ⊢; exact h0
        · simp [Array.getElem?_eq_none h']
      have h2 := wpOp_putIf hoj (hfree j oj hoj hji hjun hnot) (fun cs b => hsel i oi cs b hi) (fun cs b => hsel j oj cs b hoj) hQ hy h1
      have hfree' : ∀ k ok, ops[k]? = some ok → k ≠ i → (listed.setIfInBounds j true).getD k true = false →
          (∀ e ∈ ok.after, Region.binds md e = true → e.on ≠ i) → oi.apart ops ok = true := fun k ok hk hki hun hno => by
        refine hfree k ok hk hki ?_ hno
        by_cases hjk : j = k
        · subst hjk; exact hjun
        · rw [getD_set_ne true hjk] at hun; exact hun
      refine wpOp_mono (fun a' w' h3 => ⟨h3.2.1, ih (listed.setIfInBounds j true) a' w' (hdc.set_ hj) hfree' (ready_mono hr (Ne.symm hji)) h3.1 ?_ ?_⟩) h2
      · rcases hT with ⟨rfl, his⟩ | hT
        · exact h3.2.1 hS (needs_of hdc hj his hun)
        · exact hT _
      · rw [Array.setIfInBounds_comm _ _ hji]
        exact h3.2.2
/-- the walk, in the order of the list: (number, kind) -/
def wpMix2 (P : Program) (md : Region.Mode) (ops : Array Oper) (Q : Exit → Act → World → Prop) (S : World → Prop) (st : List Nat) : List (Nat × Nat) → Act → World → Prop
  | [], a, w => Q .normal a w
  | (i, 1) :: r, a, w => ∃ o v, ops[i]? = some o ∧ YieldsIf P ops S o v a ∧ wpMix2 P md ops Q S st r (a.put o.dst v) w
  | (i, 2) :: r, a, w => ∃ o v, ops[i]? = some o ∧ YieldsIf P ops (fun _ => True) o v a ∧ wpMix2 P md ops Q S st r (a.put o.dst v) w
  | (i, _) :: r, a, w => wpOp P ops Q i (fun a' w' => (needs md ops st i = true → S w') ∧ wpMix2 P md ops Q S st r a' w') a w
def mixB2 (md : Region.Mode) (ops : Array Oper) (st : List Nat) : List (Nat × Nat) → Array Bool → Bool
  | [], listed => (Region.ready md ops listed).isEmpty
  | (i, 1) :: r, listed => st.contains i && Region.free md ops listed i && (Region.ready md ops listed).contains i && mixB2 md ops st r (listed.setIfInBounds i true)
  | (i, 2) :: r, listed => Region.free md ops listed i && (Region.ready md ops listed).contains i && mixB2 md ops st r (listed.setIfInBounds i true)
  | (i, _) :: r, listed => Region.ready md ops listed == [i] && (!(r.any (·.2 == 1)) || needs md ops st i) && mixB2 md ops st r (listed.setIfInBounds i true)
theorem wpAny2_of_mix (hs : Region.noSelect ops = true) (hQ : ∀ d v c a w, Q (.panic c) (Act.put a d v) w → Q (.panic c) a w) :
    ∀ (r : List (Nat × Nat)) (listed : Array Bool) (a : Act) (w : World), DC md ops listed → mixB2 md ops st r listed = true → (r.any (·.2 == 1) = true → S w) →
      wpMix2 P md ops Q S st r a w → wpAny2 P md ops Q S st r.length listed a w
  | [], listed, a, w, _, hB, _, h => ⟨by simpa [mixB2] using hB, h⟩
  | (i, 1) :: r, listed, a, w, hdc, hB, hS, h => by
    simp only [mixB2, Bool.and_eq_true] at hB
    obtain ⟨⟨⟨h1, h2⟩, h3⟩, h4⟩ := hB
    obtain ⟨o, v, ho, hy, hn⟩ := h
    have hSw : S w := hS (by simp)
    exact wpAny2_first ho (.inl ⟨rfl, by simpa using h1⟩) (Region.noSelect_spec hs) (hQ _ _) r.length listed a w hdc (Region.free_spec ho h2) (by simpa using h3) hy hSw
      (wpAny2_of_mix hs hQ r _ _ w (hdc.set_ (by simpa using h3)) h4 (fun _ => hSw) hn)
  | (i, 2) :: r, listed, a, w, hdc, hB, hS, h => by
    simp only [mixB2, Bool.and_eq_true] at hB
    obtain ⟨⟨h2, h3⟩, h4⟩ := hB
    obtain ⟨o, v, ho, hy, hn⟩ := h
    exact wpAny2_first ho (.inr fun _ => trivial) (Region.noSelect_spec hs) (hQ _ _) r.length listed a w hdc (Region.free_spec ho h2) (by simpa using h3) hy trivial
      (wpAny2_of_mix hs hQ r _ _ w (hdc.set_ (by simpa using h3)) h4 (fun hr => hS (by simpa using hr)) hn)
  | (i, 0) :: r, listed, a, w, hdc, hB, hS, h => by
    simp only [mixB2, Bool.and_eq_true, beq_iff_eq] at hB
    obtain ⟨⟨h1, h2⟩, h3⟩ := hB
    refine ⟨fun h0 => (by rw [h1] at h0; cases h0), fun j hj => ?_⟩
    rw [h1] at hj
    obtain rfl : j = i := by simpa using hj
    refine wpOp_mono (fun a' w' h' => ⟨fun _ => h'.1, wpAny2_of_mix hs hQ r _ _ w' (hdc.set_ (by rw [h1]; simp)) h3 (fun hr => h'.1 ?_) h'.2⟩) h
    simpa [hr] using h2
  | (i, _ + 3) :: r, listed, a, w, hdc, hB, hS, h => by
    simp only [mixB2, Bool.and_eq_true, beq_iff_eq] at hB
    obtain ⟨⟨h1, h2⟩, h3⟩ := hB
    refine ⟨fun h0 => (by rw [h1] at h0; cases h0), fun j hj => ?_⟩
    rw [h1] at hj
    obtain rfl : j = i := by simpa using hj
    refine wpOp_mono (fun a' w' h' => ⟨fun _ => h'.1, wpAny2_of_mix hs hQ r _ _ w' (hdc.set_ (by rw [h1]; simp)) h3 (fun hr => h'.1 ?_) h'.2⟩) h
    simpa [hr] using h2
/-- A REGION THAT DRAWS ITS ORDER, the three kinds. -/
theorem wp_region_mix2 {id : Nat} {l : List Oper} {a : Act} {w : World} (S : World → Prop) (r : List (Nat × Nat)) (hm : P.follows .mixedOrders = true)
    (hB : (Region.noSelect l.toArray && (r.length == l.length) && mixB2 .any l.toArray ((r.filter (·.2 == 1)).map (·.1)) r (Array.replicate l.length false)) = true)
    (hQ : ∀ d v c a w, Q (.panic c) (Act.put a d v) w → Q (.panic c) a w) (hS : S w.drew)
    (h : wpMix2 P .any l.toArray Q S ((r.filter (·.2 == 1)).map (·.1)) r a w.drew) : (Code.region id l.toArray true).wp P Q a w := by
  simp only [Bool.and_eq_true, beq_iff_eq] at hB
  obtain ⟨⟨h1, h2⟩, h3⟩ := hB
  refine wp_region_any hm (wpAny_of_2 _ _ _ _ (S := S) (st := (r.filter (·.2 == 1)).map (·.1)) ?_)
  have := wpAny2_of_mix (md := .any) h1 hQ r (Array.replicate l.length false) a w.drew (fun j o _ hj => by
    rcases Nat.lt_or_ge j l.length with h' | h' <;> simp [h'] at hj) h3 (fun _ => hS) h
  rw [h2] at this
  simpa using this
theorem mix2_nil {a : Act} {w : World} (h : Q .normal a w) : wpMix2 P md ops Q S st [] a w := h
theorem mix2_still {i : Nat} {o : Oper} {r : List (Nat × Nat)} {a : Act} {w : World} (ho : ops[i]? = some o) (hw : Region.wanted o (yielded ops a.tmps) = true)
    (h : ∃ v, (∀ w', S w' → (execOp a.eval o).run P w' = .ok (.value v) w') ∧ wpMix2 P md ops Q S st r (a.put o.dst v) w) : wpMix2 P md ops Q S st ((i, 1) :: r) a w :=
  let ⟨v, hy, hn⟩ := h
  ⟨o, v, ho, .inl ⟨hw, hy⟩, hn⟩
theorem mix2_pure {i : Nat} {o : Oper} {r : List (Nat × Nat)} {a : Act} {w : World} (ho : ops[i]? = some o) (hw : Region.wanted o (yielded ops a.tmps) = true)
    (h : ∃ v, (∀ w', (execOp a.eval o).run P w' = .ok (.value v) w') ∧ wpMix2 P md ops Q S st r (a.put o.dst v) w) : wpMix2 P md ops Q S st ((i, 2) :: r) a w :=
  let ⟨v, hy, hn⟩ := h
  ⟨o, v, ho, .inl ⟨hw, fun w' _ => hy w'⟩, hn⟩
theorem mix2_loud {i : Nat} {o : Oper} {r : List (Nat × Nat)} {a : Act} {w : World} (ho : ops[i]? = some o)
    (h : ∀ K : Act → World → Prop, (∀ a' w', (needs md ops st i = true → S w') → wpMix2 P md ops Q S st r a' w' → K a' w') →
      if Region.wanted o (yielded ops a.tmps) then o.wp P a w K Q else K (a.put o.dst undef) w) : wpMix2 P md ops Q S st ((i, 0) :: r) a w := by
  have := h (fun a' w' => (needs md ops st i = true → S w') ∧ wpMix2 P md ops Q S st r a' w') (fun a' w' h1 h2 => ⟨h1, h2⟩)
  show wpOp P ops Q i _ a w
  unfold wpOp
  simp only [ho]
  split
  · rename_i hw; rw [if_pos hw] at this; exact .inl this
  · rename_i hw; rw [if_neg hw] at this; exact this
end
theorem wp_region_below2 {P : Program} {Q : Exit → Act → World → Prop} {id : Nat} {l : List Oper} {a : Act} {w : World} (r : List (Nat × Nat)) (hm : P.follows .mixedOrders = true)
    (hB : (Region.noSelect l.toArray && (r.length == l.length) && mixB2 .any l.toArray ((r.filter (·.2 == 1)).map (·.1)) r (Array.replicate l.length false)) = true)
    (hQ : ∀ d v c a w, Q (.panic c) (Act.put a d v) w → Q (.panic c) a w)
    (h : wpMix2 P .any l.toArray Q (fun w' => Below w.heap.size w w') ((r.filter (·.2 == 1)).map (·.1)) r a w.drew) : (Code.region id l.toArray true).wp P Q a w :=
  wp_region_mix2 _ r hm hB hQ (to_drew _ _) h
end Go.Proofs.Ytocplbhgklfgeaa.Mix

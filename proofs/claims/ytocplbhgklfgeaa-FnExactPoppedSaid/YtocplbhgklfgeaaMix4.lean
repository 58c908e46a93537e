/-
  A region that draws its order, walked as a tree: where two operations may come next, both ways are walked. The class is kept by every operation.
  Conditions: a Bool (decided by the kernel) says that the tree serves.
-/
import Derived.Test.YtocplbhgklfgeaaMix3
namespace Go.Proofs.Ytocplbhgklfgeaa.Mix
open Go.RowKit
inductive Plan where
  | nil : Plan
  | still : Nat → Plan → Plan
  | loud : Nat → Plan → Plan
  | fork : Nat → Plan → Nat → Plan → Plan
def Plan.size : Plan → Nat
  | .nil => 0
  | .still _ r => r.size + 1
  | .loud _ r => r.size + 1
  | .fork _ r _ _ => r.size + 1
section
variable {P : Program} {ops : Array Oper} {Q : Exit → Act → World → Prop} {md : Region.Mode} {S : World → Prop}
def wpTree (P : Program) (ops : Array Oper) (Q : Exit → Act → World → Prop) (S : World → Prop) : Plan → Act → World → Prop
  | .nil, a, w => Q .normal a w
  | .still i r, a, w => ∃ o v, ops[i]? = some o ∧ YieldsIf P ops S o v a ∧ wpTree P ops Q S r (a.put o.dst v) w
  | .loud i r, a, w => wpOp P ops Q i (fun a' w' => S w' ∧ wpTree P ops Q S r a' w') a w
  | .fork i r j s, a, w => wpOp P ops Q i (fun a' w' => S w' ∧ wpTree P ops Q S r a' w') a w ∧ wpOp P ops Q j (fun a' w' => S w' ∧ wpTree P ops Q S s a' w') a w
def treeB (md : Region.Mode) (ops : Array Oper) : Plan → Array Bool → Bool
  | .nil, listed => (Region.ready md ops listed).isEmpty
  | .still i r, listed => Region.free md ops listed i && (Region.ready md ops listed).contains i && treeB md ops r (listed.setIfInBounds i true)
  | .loud i r, listed => Region.ready md ops listed == [i] && treeB md ops r (listed.setIfInBounds i true)
  | .fork i r j s, listed => Region.ready md ops listed == [i, j] && r.size == s.size && treeB md ops r (listed.setIfInBounds i true) && treeB md ops s (listed.setIfInBounds j true)
theorem wpAny3_of_tree (hs : Region.noSelect ops = true) (hQ : ∀ d v c a w, Q (.panic c) (Act.put a d v) w → Q (.panic c) a w) :
    ∀ (r : Plan) (listed : Array Bool) (a : Act) (w : World), DC md ops listed → treeB md ops r listed = true → S w →
      wpTree P ops Q S r a w → wpAny3 P md ops Q S r.size listed a w
  | .nil, listed, a, w, _, hB, _, h => ⟨by simpa [treeB] using hB, h⟩
  | .still i r, listed, a, w, hdc, hB, hS, h => by
    simp only [treeB, Bool.and_eq_true] at hB
    obtain ⟨⟨h2, h3⟩, h4⟩ := hB
    obtain ⟨o, v, ho, hy, hn⟩ := h
    exact wpAny3_first ho (Region.noSelect_spec hs) (hQ _ _) r.size listed a w hdc (Region.free_spec ho h2) (by simpa using h3) hy hS
      (wpAny3_of_tree hs hQ r _ _ w (hdc.set_ (by simpa using h3)) h4 hS hn)
  | .loud i r, listed, a, w, hdc, hB, hS, h => by
    simp only [treeB, Bool.and_eq_true, beq_iff_eq] at hB
    obtain ⟨h1, h3⟩ := hB
    refine ⟨fun h0 => (by rw [h1] at h0; cases h0), fun j hj => ?_⟩
    rw [h1] at hj
    obtain rfl : j = i := by simpa using hj
    exact wpOp_mono (fun a' w' h' => ⟨fun _ => h'.1, wpAny3_of_tree hs hQ r _ _ w' (hdc.set_ (by rw [h1]; simp)) h3 h'.1 h'.2⟩) h
  | .fork i r j s, listed, a, w, hdc, hB, hS, h => by
    simp only [treeB, Bool.and_eq_true, beq_iff_eq] at hB
    obtain ⟨⟨⟨h1, h2⟩, h3⟩, h4⟩ := hB
    refine ⟨fun h0 => (by rw [h1] at h0; cases h0), fun k hk => ?_⟩
    rw [h1] at hk
    have hk : k = i ∨ k = j := by simpa using hk
    rcases hk with rfl | rfl
    · exact wpOp_mono (fun a' w' h' => ⟨fun _ => h'.1, wpAny3_of_tree hs hQ r _ _ w' (hdc.set_ (by rw [h1]; simp)) h3 h'.1 h'.2⟩) h.1
    · exact wpOp_mono (fun a' w' h' => ⟨fun _ => h'.1, by
        have := wpAny3_of_tree hs hQ s _ _ w' (hdc.set_ (by rw [h1]; simp)) h4 h'.1 h'.2
        rw [← h2] at this
        exact this⟩) h.2
/-- A REGION THAT DRAWS ITS ORDER, as a tree. -/
theorem wp_region_tree {id : Nat} {l : List Oper} {a : Act} {w : World} (S : World → Prop) (r : Plan) (hm : P.follows .mixedOrders = true)
    (hB : (Region.noSelect l.toArray && (r.size == l.length) && treeB .any l.toArray r (Array.replicate l.length false)) = true)
    (hQ : ∀ d v c a w, Q (.panic c) (Act.put a d v) w → Q (.panic c) a w) (hS : S w.drew)
    (h : wpTree P l.toArray Q S r a w.drew) : (Code.region id l.toArray true).wp P Q a w := by
  simp only [Bool.and_eq_true, beq_iff_eq] at hB
  obtain ⟨⟨h1, h2⟩, h3⟩ := hB
  refine wp_region_any hm (wpAny_of_3 _ _ _ _ (S := S) ?_)
  have := wpAny3_of_tree (md := .any) h1 hQ r (Array.replicate l.length false) a w.drew (fun j o _ hj => by
    rcases Nat.lt_or_ge j l.length with h' | h' <;> simp [h'] at hj) h3 hS h
  rw [h2] at this
  simpa using this
theorem tree_nil {a : Act} {w : World} (h : Q .normal a w) : wpTree P ops Q S .nil a w := h
theorem tree_still {i : Nat} {o : Oper} {r : Plan} {a : Act} {w : World} (ho : ops[i]? = some o) (hw : Region.wanted o (yielded ops a.tmps) = true)
    (h : ∃ v, (∀ w', S w' → (execOp a.eval o).run P w' = .ok (.value v) w') ∧ wpTree P ops Q S r (a.put o.dst v) w) : wpTree P ops Q S (.still i r) a w :=
  let ⟨v, hy, hn⟩ := h
  ⟨o, v, ho, .inl ⟨hw, hy⟩, hn⟩
theorem op_loud {i : Nat} {o : Oper} {r : Plan} {a : Act} {w : World} (ho : ops[i]? = some o)
    (h : ∀ K : Act → World → Prop, (∀ a' w', S w' → wpTree P ops Q S r a' w' → K a' w') →
      if Region.wanted o (yielded ops a.tmps) then o.wp P a w K Q else K (a.put o.dst undef) w) : wpOp P ops Q i (fun a' w' => S w' ∧ wpTree P ops Q S r a' w') a w := by
  have := h (fun a' w' => S w' ∧ wpTree P ops Q S r a' w') (fun a' w' h1 h2 => ⟨h1, h2⟩)
  unfold wpOp
  simp only [ho]
  split
  · rename_i hw; rw [if_pos hw] at this; exact .inl this
  · rename_i hw; rw [if_neg hw] at this; exact this
theorem tree_loud {i : Nat} {o : Oper} {r : Plan} {a : Act} {w : World} (ho : ops[i]? = some o)
    (h : ∀ K : Act → World → Prop, (∀ a' w', S w' → wpTree P ops Q S r a' w' → K a' w') →
      if Region.wanted o (yielded ops a.tmps) then o.wp P a w K Q else K (a.put o.dst undef) w) : wpTree P ops Q S (.loud i r) a w := op_loud ho h
theorem tree_fork {i j : Nat} {o p : Oper} {r s : Plan} {a : Act} {w : World} (ho : ops[i]? = some o) (hp : ops[j]? = some p)
    (h : ∀ K : Act → World → Prop, (∀ a' w', S w' → wpTree P ops Q S r a' w' → K a' w') →
      if Region.wanted o (yielded ops a.tmps) then o.wp P a w K Q else K (a.put o.dst undef) w)
    (h2 : ∀ K : Act → World → Prop, (∀ a' w', S w' → wpTree P ops Q S s a' w' → K a' w') →
      if Region.wanted p (yielded ops a.tmps) then p.wp P a w K Q else K (a.put p.dst undef) w) : wpTree P ops Q S (.fork i r j s) a w := ⟨op_loud ho h, op_loud hp h2⟩
end
end Go.Proofs.Ytocplbhgklfgeaa.Mix

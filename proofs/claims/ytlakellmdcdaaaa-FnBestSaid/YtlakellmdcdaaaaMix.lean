/-
  A region that draws its order, walked once: proved here is a law for it. Operations that yield the same value in every world of a class ('still') are carried out as soon as they may be; the others ('loud': calls, new blocks, stores) one by one, in the one order that is left.
  Conditions: the order that is walked is given as a list, and a Bool (decided by the kernel) says that it serves.
-/
import Derived.OrdersHeld
import Derived.Tactics
import Derived.KernelRfl
import Derived.Below
import Derived.Deep.Draws
namespace Go.Proofs.Ytlakellmdcdaaaa.Mix
open Go.RowKit

section
variable {P : Program} {ops : Array Oper} {Q : Exit → Act → World → Prop} {md : Region.Mode} {S : World → Prop} {st : List Nat}

/-- operation j waits for operation i, directly or through others -/
def reach (md : Region.Mode) (ops : Array Oper) : Nat → Nat → Nat → Bool
  | 0, _, _ => false
  | f + 1, j, i => match ops[j]? with
    | none => false
    | some o => o.after.any fun e => Region.binds md e && (e.on == i || reach md ops f e.on i)

/-- whoever has come up has done so behind all that it waits for -/
def DC (md : Region.Mode) (ops : Array Oper) (listed : Array Bool) : Prop :=
  ∀ j o, ops[j]? = some o → listed.getD j false = true → ∀ e ∈ o.after, Region.binds md e = true → listed.getD e.on false = true

theorem reach_listed {listed : Array Bool} (hd : DC md ops listed) : ∀ (f j i : Nat) (o : Oper), ops[j]? = some o → (∀ e ∈ o.after, Region.binds md e = true → listed.getD e.on false = true) →
    reach md ops f j i = true → listed.getD i false = true
  | 0, _, _, _, _, _, h => by simp [reach] at h
  | f + 1, j, i, o, ho, hall, h => by
    simp only [reach, ho] at h
    obtain ⟨e, he, hb⟩ := Array.any_eq_true'.1 h
    simp only [Bool.and_eq_true, Bool.or_eq_true, beq_iff_eq] at hb
    obtain ⟨hbi, rfl | hr⟩ := hb
    · exact hall e he hbi
    · cases ho' : ops[e.on]? with
      | none => cases f <;> simp [reach, ho'] at hr
      | some o' => exact reach_listed hd f e.on i o' ho' (hd e.on o' ho' (hall e he hbi)) hr

theorem DC.set_ {listed : Array Bool} (hd : DC md ops listed) {i : Nat} (hr : i ∈ Region.ready md ops listed) : DC md ops (listed.setIfInBounds i true) := by
  intro j o ho hj e he hb
  by_cases hji : i = j
  · subst hji
    obtain ⟨_, o', ho', hall⟩ := mem_ready.1 hr
    rw [ho] at ho'
    cases ho'
    exact getD_set_true (hall e he hb)
  · rw [getD_set_ne false hji] at hj
    exact getD_set_true (hd j o ho hj e he hb)

/-- some still operation is none of those that operation j waits for -/
def needs (md : Region.Mode) (ops : Array Oper) (st : List Nat) (j : Nat) : Bool := st.any fun i => !reach md ops ops.size j i

theorem needs_of {listed : Array Bool} (hd : DC md ops listed) {j i : Nat} (hj : j ∈ Region.ready md ops listed) (hi : i ∈ st) (hn : listed.getD i false = false) : needs md ops st j = true := by
  unfold needs
  rw [List.any_eq_true]
  refine ⟨i, hi, ?_⟩
  rw [Bool.not_eq_true', Bool.eq_false_iff]
  intro h
  obtain ⟨_, o, ho, hall⟩ := mem_ready.1 hj
  rw [reach_listed hd _ _ _ o ho hall h] at hn
  cases hn

def wpAnyN (P : Program) (md : Region.Mode) (ops : Array Oper) (Q : Exit → Act → World → Prop) (S : World → Prop) (st : List Nat) : Nat → Array Bool → Act → World → Prop
  | 0, listed, a, w => Region.ready md ops listed = [] ∧ Q .normal a w
  | fuel + 1, listed, a, w =>
    (Region.ready md ops listed = [] → Q .normal a w) ∧
    ∀ i ∈ Region.ready md ops listed, wpOp P ops Q i (fun a' w' => (needs md ops st i = true → S w') ∧ wpAnyN P md ops Q S st fuel (listed.setIfInBounds i true) a' w') a w

theorem wpAny_of_N : ∀ (fuel : Nat) (listed : Array Bool) (a : Act) (w : World), wpAnyN P md ops Q S st fuel listed a w → wpAny P md ops Q fuel listed a w
  | 0, _, _, _, h => h
  | fuel + 1, _, _, _, h => ⟨h.1, fun i hi => wpOp_mono (fun a' w' h' => wpAny_of_N fuel _ a' w' h'.2) (h.2 i hi)⟩

theorem wpAnyN_first {i : Nat} {oi : Oper} {v : Value} (hi : ops[i]? = some oi) (his : i ∈ st) (hsel : ∀ (j : Nat) (o : Oper) cs b, ops[j]? = some o → o.op ≠ .select cs b)
    (hQ : ∀ c a w, Q (.panic c) (a.put oi.dst v) w → Q (.panic c) a w) :
    ∀ (fuel : Nat) (listed : Array Bool) (a : Act) (w : World), DC md ops listed →
      (∀ j oj, ops[j]? = some oj → j ≠ i → listed.getD j true = false → (∀ e ∈ oj.after, Region.binds md e = true → e.on ≠ i) → oi.apart ops oj = true) →
      i ∈ Region.ready md ops listed → YieldsIf P ops S oi v a → S w →
      wpAnyN P md ops Q S st fuel (listed.setIfInBounds i true) (a.put oi.dst v) w → wpAnyN P md ops Q S st (fuel + 1) listed a w := by
  intro fuel
  induction fuel with
  | zero =>
    intro listed a w _ _ hr hy hS H
    refine ⟨fun h => (by rw [h] at hr; cases hr), fun j hj => ?_⟩
    by_cases hji : j = i
    · subst hji; exact hy.wpOp hi hS ⟨fun _ => hS, H⟩
    · have := ready_mono hj hji
      rw [H.1] at this
      cases this
  | succ fuel ih =>
    intro listed a w hdc hfree hr hy hS H
    refine ⟨fun h => (by rw [h] at hr; cases hr), fun j hj => ?_⟩
    by_cases hji : j = i
    · subst hji; exact hy.wpOp hi hS ⟨fun _ => hS, H⟩
    · have h1 := H.2 j (ready_mono hj hji)
      obtain ⟨hjun, oj, hoj, hall⟩ := mem_ready.1 hj
      have hnot : ∀ e ∈ oj.after, Region.binds md e = true → e.on ≠ i := fun e he hb heq => by
        have h1 := hall e he hb
        have h0 := (mem_ready.1 hr).1
        rw [heq] at h1
        rcases Nat.lt_or_ge i listed.size with h' | h'
        · simp [h'] at h0 h1; rw [h0] at h1; cases h1
        · simp [Array.getElem?_eq_none h'] at h1
      have hneed := needs_of hdc hj his (by
        have h0 := (mem_ready.1 hr).1
        rcases Nat.lt_or_ge i listed.size with h' | h'
        · simp [h'] at h0 ⊢; exact h0
        · simp [Array.getElem?_eq_none h'])
      have h2 := wpOp_putIf hoj (hfree j oj hoj hji hjun hnot) (fun cs b => hsel i oi cs b hi) (fun cs b => hsel j oj cs b hoj) hQ hy h1
      have hfree' : ∀ k ok, ops[k]? = some ok → k ≠ i → (listed.setIfInBounds j true).getD k true = false →
          (∀ e ∈ ok.after, Region.binds md e = true → e.on ≠ i) → oi.apart ops ok = true := fun k ok hk hki hun hno => by
        refine hfree k ok hk hki ?_ hno
        by_cases hjk : j = k
        · subst hjk; exact hjun
        · rw [getD_set_ne true hjk] at hun; exact hun
      refine wpOp_mono (fun a' w' h3 => ⟨h3.2.1, ih (listed.setIfInBounds j true) a' w' (hdc.set_ hj) hfree' (ready_mono hr (Ne.symm hji)) h3.1 (h3.2.1 hneed) ?_⟩) h2
      rw [Array.setIfInBounds_comm _ _ hji]
      exact h3.2.2

/-- the walk, in the order of the list: (number, still?) -/
def wpMix (P : Program) (md : Region.Mode) (ops : Array Oper) (Q : Exit → Act → World → Prop) (S : World → Prop) (st : List Nat) : List (Nat × Bool) → Act → World → Prop
  | [], a, w => Q .normal a w
  | (i, true) :: r, a, w => ∃ o v, ops[i]? = some o ∧ YieldsIf P ops S o v a ∧ wpMix P md ops Q S st r (a.put o.dst v) w
  | (i, false) :: r, a, w => wpOp P ops Q i (fun a' w' => (needs md ops st i = true → S w') ∧ wpMix P md ops Q S st r a' w') a w

/-- the order serves -/
def mixB (md : Region.Mode) (ops : Array Oper) (st : List Nat) : List (Nat × Bool) → Array Bool → Bool
  | [], listed => (Region.ready md ops listed).isEmpty
  | (i, true) :: r, listed => st.contains i && Region.free md ops listed i && (Region.ready md ops listed).contains i && mixB md ops st r (listed.setIfInBounds i true)
  | (i, false) :: r, listed => Region.ready md ops listed == [i] && (!(r.any (·.2)) || needs md ops st i) && mixB md ops st r (listed.setIfInBounds i true)

theorem wpAnyN_of_mix (hs : Region.noSelect ops = true) (hQ : ∀ d v c a w, Q (.panic c) (Act.put a d v) w → Q (.panic c) a w) :
    ∀ (r : List (Nat × Bool)) (listed : Array Bool) (a : Act) (w : World), DC md ops listed → mixB md ops st r listed = true → (r.any (·.2) = true → S w) →
      wpMix P md ops Q S st r a w → wpAnyN P md ops Q S st r.length listed a w
  | [], listed, a, w, _, hB, _, h => ⟨by simpa [mixB] using hB, h⟩
  | (i, true) :: r, listed, a, w, hdc, hB, hS, h => by
    simp only [mixB, Bool.and_eq_true] at hB
    obtain ⟨⟨⟨h1, h2⟩, h3⟩, h4⟩ := hB
    obtain ⟨o, v, ho, hy, hn⟩ := h
    have hSw : S w := hS (by simp)
    exact wpAnyN_first ho (by simpa using h1) (Region.noSelect_spec hs) (hQ _ _) r.length listed a w hdc (Region.free_spec ho h2) (by simpa using h3) hy hSw
      (wpAnyN_of_mix hs hQ r _ _ w (hdc.set_ (by simpa using h3)) h4 (fun _ => hSw) hn)
  | (i, false) :: r, listed, a, w, hdc, hB, hS, h => by
    simp only [mixB, Bool.and_eq_true, beq_iff_eq] at hB
    obtain ⟨⟨h1, h2⟩, h3⟩ := hB
    refine ⟨fun h0 => (by rw [h1] at h0; cases h0), fun j hj => ?_⟩
    rw [h1] at hj
    obtain rfl : j = i := by simpa using hj
    refine wpOp_mono (fun a' w' h' => ⟨h'.1, wpAnyN_of_mix hs hQ r _ a' w' (hdc.set_ (by rw [h1]; simp)) h3 (fun hr => h'.1 ?_) h'.2⟩) h
    simpa [hr] using h2

/-- A REGION THAT DRAWS ITS ORDER, operations written out. -/
theorem wp_region_mix {id : Nat} {l : List Oper} {a : Act} {w : World} (S : World → Prop) (r : List (Nat × Bool)) (hm : P.follows .mixedOrders = true)
    (hB : (Region.noSelect l.toArray && (r.length == l.length) && mixB .any l.toArray ((r.filter (·.2)).map (·.1)) r (Array.replicate l.length false)) = true)
    (hQ : ∀ d v c a w, Q (.panic c) (Act.put a d v) w → Q (.panic c) a w) (hS : S w.drew)
    (h : wpMix P .any l.toArray Q S ((r.filter (·.2)).map (·.1)) r a w.drew) : (Code.region id l.toArray true).wp P Q a w := by
  simp only [Bool.and_eq_true, beq_iff_eq] at hB
  obtain ⟨⟨h1, h2⟩, h3⟩ := hB
  refine wp_region_any hm (wpAny_of_N _ _ _ _ (S := S) (st := (r.filter (·.2)).map (·.1)) ?_)
  have := wpAnyN_of_mix (md := .any) h1 hQ r (Array.replicate l.length false) a w.drew (fun j o _ hj => by
    rcases Nat.lt_or_ge j l.length with h' | h' <;> simp [h'] at hj) h3 (fun _ => hS) h
  rw [h2] at this
  simpa using this

/-- nothing is asked of the world behind an operation that waits for all still ones -/
theorem no_need {b : Bool} {p : Prop} (h : b = false) : b = true → p := fun hb => by rw [h] at hb; cases hb
theorem mix_nil {a : Act} {w : World} (h : Q .normal a w) : wpMix P md ops Q S st [] a w := h

/-- a still operation -/
theorem mix_still {i : Nat} {o : Oper} {r : List (Nat × Bool)} {a : Act} {w : World} (ho : ops[i]? = some o) (hw : Region.wanted o (yielded ops a.tmps) = true)
    (h : ∃ v, (∀ w', S w' → (execOp a.eval o).run P w' = .ok (.value v) w') ∧ wpMix P md ops Q S st r (a.put o.dst v) w) : wpMix P md ops Q S st ((i, true) :: r) a w :=
  let ⟨v, hy, hn⟩ := h
  ⟨o, v, ho, .inl ⟨hw, hy⟩, hn⟩

/-- .. whose guard says no -/
theorem mix_skip {i : Nat} {o : Oper} {r : List (Nat × Bool)} {a : Act} {w : World} (ho : ops[i]? = some o) (hw : Region.wanted o (yielded ops a.tmps) = false)
    (h : wpMix P md ops Q S st r (a.put o.dst undef) w) : wpMix P md ops Q S st ((i, true) :: r) a w :=
  ⟨o, undef, ho, .inr ⟨hw, rfl⟩, h⟩

/-- a loud one -/
theorem mix_loud {i : Nat} {o : Oper} {r : List (Nat × Bool)} {a : Act} {w : World} (ho : ops[i]? = some o)
    (h : ∀ K : Act → World → Prop, (∀ a' w', (needs md ops st i = true → S w') → wpMix P md ops Q S st r a' w' → K a' w') →
      if Region.wanted o (yielded ops a.tmps) then o.wp P a w K Q else K (a.put o.dst undef) w) : wpMix P md ops Q S st ((i, false) :: r) a w := by
  have := h (fun a' w' => (needs md ops st i = true → S w') ∧ wpMix P md ops Q S st r a' w') (fun a' w' h1 h2 => ⟨h1, h2⟩)
  show wpOp P ops Q i _ a w
  unfold wpOp
  simp only [ho]
  split
  · rename_i hw; rw [if_pos hw] at this; exact .inl this
  · rename_i hw; rw [if_neg hw] at this; exact this

end

/-- what lies below is as it was, cell by cell -/
theorem cells_of {B : Nat} {W w' : World} (h : Below B W w') : ∀ b o, b < B → w'.cell? ⟨b, o, none⟩ = W.cell? ⟨b, o, none⟩ := fun _ _ hb => h.cell (p := ⟨_, _, none⟩) hb
theorem frozens_of {B : Nat} {W w' : World} (h : Below B W w') : ∀ b o, b < B → w'.frozen? ⟨b, o, none⟩ = W.frozen? ⟨b, o, none⟩ := fun _ _ hb => h.frozen (p := ⟨_, _, none⟩) hb
/-- a draw more or less -/
theorem of_drew {W w' : World} (h : Below W.drew.heap.size W.drew w') : Below W.heap.size W w' := ⟨h.os, h.tape, h.output, h.size, h.block⟩
theorem to_drew (W : World) (B : Nat) : Below B W W.drew := (Below.refl B W).drew
/-- the same where the class is 'below the blocks that lie here, all is as it is' -/
theorem wp_region_below {P : Program} {Q : Exit → Act → World → Prop} {id : Nat} {l : List Oper} {a : Act} {w : World} (r : List (Nat × Bool)) (hm : P.follows .mixedOrders = true)
    (hB : (Region.noSelect l.toArray && (r.length == l.length) && mixB .any l.toArray ((r.filter (·.2)).map (·.1)) r (Array.replicate l.length false)) = true)
    (hQ : ∀ d v c a w, Q (.panic c) (Act.put a d v) w → Q (.panic c) a w)
    (h : wpMix P .any l.toArray Q (fun w' => Below w.heap.size w w') ((r.filter (·.2)).map (·.1)) r a w.drew) : (Code.region id l.toArray true).wp P Q a w :=
  wp_region_mix _ r hm hB hQ (to_drew _ _) h
theorem to_drewN (W : World) (B n : Nat) : Below B W (W.drewN n) := ⟨rfl, rfl, rfl, Nat.le_refl _, fun _ _ => rfl⟩
/-- one call behind the other -/
theorem thenBelow {W w1 w2 : World} (h : Below W.heap.size W w1) (k : Below w1.heap.size w1 w2) : Below W.heap.size W w2 := h.trans (k.mono h.size)
end Go.Proofs.Ytlakellmdcdaaaa.Mix

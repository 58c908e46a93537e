/-
  A region that draws its order, walked by an invariant: each operation that may be next keeps it.
  Conditions: as stated.
-/
import Derived.Test.YtlakellmdcdaaaaMix
namespace Go.Proofs.Ytlakellmdcdaaaa.Mix
open Go.RowKit
section
variable {P : Program} {ops : Array Oper} {Q : Exit → Act → World → Prop} {md : Region.Mode}
/-- how many are not listed yet -/
def left_ (listed : Array Bool) : Nat := listed.toList.count false
theorem left_set {listed : Array Bool} {i : Nat} (h : listed.getD i true = false) : left_ (listed.setIfInBounds i true) + 1 = left_ listed := by
  have hi : i < listed.size := by
    apply Nat.lt_of_not_le
    intro hle
    rw [Array.getD_eq_getD_getElem?, Array.getElem?_eq_none hle] at h
    cases h
  have hv : listed.toList[i]'(by simpa using hi) = false := by
    rw [Array.getD_eq_getD_getElem?, Array.getElem?_eq_getElem hi] at h
    simpa using h
  unfold left_
  rw [Array.toList_setIfInBounds, List.count_set (by simpa using hi), hv]
  have hpos : 0 < listed.toList.count false := List.count_pos_iff.2 (by rw [← hv]; exact List.getElem_mem _)
  rw [if_pos (by decide), if_neg (by decide)]
  omega
/-- edges point to operations ahead -/
def ahead (ops : Array Oper) : Bool := (List.range ops.size).all fun j => match ops[j]? with
  | none => true
  | some o => o.after.all fun e => decide (e.on < j)
theorem ahead_of (h : ahead ops = true) {j : Nat} {o : Oper} (ho : ops[j]? = some o) : ∀ e ∈ o.after, e.on < j := by
  have hj : j < ops.size := (Array.getElem?_eq_some_iff.1 ho).1
  have h1 := List.all_eq_true.1 h j (List.mem_range.2 hj)
  rw [ho] at h1
  intro e he
  have h2 := Array.all_eq_true'.1 h1 e he
  simpa using h2
theorem all_listed (ha : ahead ops = true) {listed : Array Bool} (hsz : listed.size = ops.size) (hr : Region.ready md ops listed = []) : ∀ i, i < ops.size → listed.getD i false = true := by
  intro i
  induction i using Nat.strongRecOn with
  | _ i ih =>
    intro hi
    cases hc : listed.getD i false with
    | true => rfl
    | false =>
      exfalso
      have hm : i ∈ Region.ready md ops listed := by
        refine mem_ready.2 ⟨?_, ops[i], Array.getElem?_eq_getElem hi, fun e he _ => ?_⟩
        · rw [Array.getD_eq_getD_getElem?, Array.getElem?_eq_getElem (by omega)] at hc ⊢
          exact hc
        · have hlt := ahead_of ha (Array.getElem?_eq_getElem hi) e he
          exact ih e.on hlt (by omega)
      rw [hr] at hm
      cases hm
theorem wpAny_inv (ha : ahead ops = true) (I : Array Bool → Act → World → Prop)
    (hstep : ∀ listed a w i, DC md ops listed → I listed a w → i ∈ Region.ready md ops listed → wpOp P ops Q i (fun a' w' => I (listed.setIfInBounds i true) a' w') a w)
    (hdone : ∀ listed a w, I listed a w → (∀ i, i < ops.size → listed.getD i false = true) → Q .normal a w) :
    ∀ (n : Nat) (listed : Array Bool) (a : Act) (w : World), DC md ops listed → listed.size = ops.size → I listed a w → left_ listed ≤ n → wpAny P md ops Q n listed a w
  | 0, listed, a, w, _, hsz, hI, hn => by
    have h0 : Region.ready md ops listed = [] := by
      apply List.eq_nil_iff_forall_not_mem.2
      intro i hi
      have := left_set (mem_ready.1 hi).1
      omega
    exact ⟨h0, hdone listed a w hI (all_listed ha hsz h0)⟩
  | n + 1, listed, a, w, hd, hsz, hI, hn => by
    refine ⟨fun h0 => hdone listed a w hI (all_listed ha hsz h0), fun i hi => ?_⟩
    have hl := left_set (mem_ready.1 hi).1
    exact wpOp_mono (fun a' w' h => wpAny_inv ha I hstep hdone n _ a' w' (hd.set_ hi) (by simpa using hsz) h (by omega)) (hstep listed a w i hd hI hi)
/-- A REGION THAT DRAWS ITS ORDER, by an invariant. -/
theorem wp_region_inv {id : Nat} {l : List Oper} {a : Act} {w : World} (I : Array Bool → Act → World → Prop) (hm : P.follows .mixedOrders = true) (ha : ahead l.toArray = true)
    (h0 : I (Array.replicate l.length false) a w.drew)
    (hstep : ∀ listed a w i, DC .any l.toArray listed → I listed a w → i ∈ Region.ready .any l.toArray listed → wpOp P l.toArray Q i (fun a' w' => I (listed.setIfInBounds i true) a' w') a w)
    (hdone : ∀ listed a w, I listed a w → (∀ i, i < l.length → listed.getD i false = true) → Q .normal a w) : (Code.region id l.toArray true).wp P Q a w := by
  refine wp_region_any hm ?_
  have := wpAny_inv (P := P) (Q := Q) (md := .any) (ops := l.toArray) ha I hstep (fun li a w hI h => hdone li a w hI (by simpa using h)) l.length (Array.replicate l.length false) a w.drew
    (fun j o _ hj => by rcases Nat.lt_or_ge j l.length with h' | h' <;> simp [h'] at hj) (by simp) h0 (by unfold left_; simp)
  simpa using this
end
end Go.Proofs.Ytlakellmdcdaaaa.Mix

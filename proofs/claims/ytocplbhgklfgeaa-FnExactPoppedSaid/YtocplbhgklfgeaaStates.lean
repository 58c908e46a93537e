/-
  The contracts of laws.szStateS, toStateS, eqStateS and of impl.HeapOk, spec.HeapOk.
  Conditions: the slices read as lists of states.
-/
import Derived.Test.YtocplbhgklfgeaaState
import Derived.Test.YtocplbhgklfgeaaOwns
import Derived.Test.YtocplbhgklfgeaaRecs
namespace Go.Proofs.Ytocplbhgklfgeaa.States
open Go.RowKit Go.Proofs.Ytocplbhgklfgeaa.Row Go.Proofs.Ytocplbhgklfgeaa.Mem Go.Proofs.Ytocplbhgklfgeaa.Mix Go.Proofs.Ytocplbhgklfgeaa.Ints Go.Proofs.Ytocplbhgklfgeaa.State Go.Proofs.Ytocplbhgklfgeaa.Recs Go.Proofs.Ytocplbhgklfgeaa.Owns
/-- a state as it lies: the slice value, what it reads as, the sum -/
structure S where
  v : Value
  vals : List Int
  sum : Int
def S.cells (x : S) : List Value := [x.v, .int .i64 x.sum]
abbrev S.val (x : S) : Value := .agg #[x.v, .int .i64 x.sum]
abbrev cs (xs : List S) : List Value := xs.flatMap S.cells
def S.abs (x : S) : List Int × Int := (x.vals, x.sum)
abbrev VRow (w : World) (x : S) : Prop := Row w x.v 1 x.vals.length (ints x.vals)
def SRow (w : World) (v : Value) (xs : List S) : Prop := Row w v 2 xs.length (cs xs) ∧ ∀ x ∈ xs, VRow w x
theorem SRow.below {w w' : World} {v : Value} {xs : List S} (h : SRow w v xs) (hb : Below w.heap.size w w') : SRow w' v xs := ⟨h.1.below hb, fun x hx => (h.2 x hx).below hb⟩
theorem SRow.drew {w : World} {v : Value} {xs : List S} (h : SRow w v xs) : SRow w.drew v xs := h
theorem cells_len (x : S) : x.cells.length = 2 := rfl
theorem cells_ {w : World} {b off : Nat} {xs : List S} (hc : ∀ j u, (cs xs)[j]? = some u → w.cell? ⟨b, off + j, none⟩ = some u) {i : Nat} (h : i < xs.length) :
    w.cell? ⟨b, off + i * 2, none⟩ = some xs[i].v ∧ w.cell? ⟨b, off + i * 2 + 1, none⟩ = some (.int .i64 xs[i].sum) :=
  ⟨hc _ _ (flat_at cells_len xs i 0 h (by omega)), hc _ _ (flat_at cells_len xs i 1 h (by omega))⟩
theorem E : Elem Try.prog 28 31 (.agg #[.slice none 0 0, .int .i64 0]) 2 32 := ⟨Try.underlying28, by kernel_rfl, rfl, by omega⟩
/-- all slices of the call's own, no two in one block -/
def OwnS (w : World) (lo : Nat) (ys : List S) : Prop := (∀ y ∈ ys, w.ownsRow lo 3 1 y.v y.vals.length (ints y.vals)) ∧ ys.Pairwise fun a b => a.v.ownBlock = none ∨ a.v.ownBlock ≠ b.v.ownBlock
theorem OwnS.below {w w' : World} {lo : Nat} {ys : List S} (h : OwnS w lo ys) (hb : Below w.heap.size w w') : OwnS w' lo ys := ⟨fun y hy => own_below (h.1 y hy) hb, h.2⟩
theorem OwnS.rows {w : World} {lo : Nat} {ys : List S} (h : OwnS w lo ys) : ∀ x ∈ ys, VRow w x := fun x hx => row_of_owns (h.1 x hx)
theorem OwnS.snoc {w : World} {lo : Nat} {ys : List S} (h : OwnS w lo ys) {y : S} {m : Nat} (hy : w.ownsRow m 3 1 y.v y.vals.length (ints y.vals)) (hlo : lo ≤ m) (hm : ∀ x ∈ ys, ∀ q, x.v.ownBlock = some q → q < m) : OwnS w lo (ys ++ [y]) := by
  refine ⟨fun x hx => ?_, ?_⟩
  · rw [List.mem_append] at hx
    rcases hx with hx | hx
    · exact h.1 x hx
    · simp at hx
      subst hx
      exact own_mono hy hlo
  · rw [List.pairwise_append]
    refine ⟨h.2, by simp, fun a ha b hb => ?_⟩
    simp at hb
    subst hb
    cases hq : a.v.ownBlock with
    | none => exact .inl rfl
    | some q =>
      refine .inr (fun e => ?_)
      have := hm a ha q hq
      have := (hy.lt q e.symm).1
      omega
theorem setAll_heap : ∀ (us : List Value) (w : World) (g o k : Nat), k ≠ g → (setAll w g o us).heap[k]? = w.heap[k]?
  | [], _, _, _, _, _ => rfl
  | u :: us, w, g, o, k, h => (setAll_heap us _ g (o + 1) k h).trans (Below.heap_setCell w ⟨g, o, none⟩ u k h)
theorem setAll_grown (w : World) (g o : Nat) (us : List Value) : w.grownBy (setAll w g o us) (some g) := grown_setAll us o (World.grownBy.refl w _)
theorem OwnS.setAll {w : World} {lo g : Nat} {ys : List S} (h : OwnS w lo ys) (hg : g < lo) (us : List Value) (o : Nat) : OwnS (setAll w g o us) lo ys :=
  ⟨fun y hy => (h.1 y hy).kept (setAll_grown w g o us) (by
    cases hq : y.v.ownBlock with
    | none => simp
    | some q => exact .inr (fun e => by injection e with e; have := ((h.1 y hy).lt q hq).1; omega)), h.2⟩
set_option maxRecDepth 100000 in
set_option maxHeartbeats 1600000 in
theorem to_any {v : Value} {xs : List S} {w : World} (h1 : SRow w v xs) (hb8 : xs.length * 32 ≤ 140737488355328) (hv8 : ∀ x ∈ xs, x.vals.length * 8 ≤ 140737488355328) :
    Calls Try.prog 8 #[v] w fun e w' => ∃ ys, e = .returned (.slice (some ⟨w.heap.size, 0, none⟩) xs.length xs.length) ∧ ys.map S.abs = xs.map S.abs ∧
      Own w' (.slice (some ⟨w.heap.size, 0, none⟩) xs.length xs.length) 31 2 w.heap.size xs.length (cs ys) ∧ OwnS w' (w.heap.size + 1) ys ∧ Below w.heap.size w w' := by
  have hrows := Lib.hid h1.2
  obtain ⟨⟨A, c, rfl, -, hn, hnc, hcm, ha⟩, -⟩ := h1
  have hmk : ∀ W, (Instr.makeSlice 28 (.int .i64 (xs.length : Int)) (.int .i64 (xs.length : Int))).run Try.prog W = .ok (.slice (some ⟨W.heap.size, 0, none⟩) xs.length xs.length) (W.alloc (.cells (madeCells #[.slice none 0 0, .int .i64 0] (xs.length * 2)) 31)) := fun W =>
    make_run E xs.length xs.length (by omega) (by omega) (by simp only [maxLen]; omega) W
  go_enter Try.func8, Try.ntmps8
  go_wp2
  go_loopw [4] (fun i wr => ∃ (k : Nat) (ys : List S), k ≤ xs.length ∧ i = .int .i64 k ∧ Hid (ys.map S.abs = (xs.take k).map S.abs) ∧ Fill wr w.heap.size 31 2 xs.length k (cs ys) ∧ OwnS wr (w.heap.size + 1) ys ∧ Below w.heap.size w wr) (fun i _ => xs.length - (intOf i).toNat)
  case atStart => exact ⟨0, [], by omega, rfl, Lib.hid rfl, Fill.made w _ (by simp [madeCells]), ⟨by simp, by simp⟩, (Below.refl _ _).alloc (Nat.le_refl _) _⟩
  case round =>
    obtain ⟨k, ys, hk, rfl, hab, hf, hown, hbw⟩ := hrel
    by_cases hlt : k < xs.length
    · obtain ⟨b, off, rfl, hb, hc⟩ := ha (by omega)
      obtain ⟨c0, c1⟩ := cells_ (fun j u hu => (cells_of hbw b _ hb).trans (hc j u hu)) hlt
      have hvr : Row wr xs[k].v 1 xs[k].vals.length (ints xs[k].vals) := (hrows.out _ (List.getElem_mem hlt)).below hbw
      have hv := hv8 _ (List.getElem_mem hlt)
      clear hc hv8
      obtain ⟨A1, n1, l1, hvv⟩ : ∃ A1 n1 l1, xs[k].v = .slice A1 n1 l1 := by obtain ⟨A1, l1, h, -⟩ := hvr; exact ⟨_, _, _, h⟩
      have hlast : k < xs.length := hlt
      rw [hvv] at c0 hvr
      replace hvv := Lib.hid hvv
      have hcall := Lib.hid (toState_any hvr xs[k].sum hv)
      clear hvr
      go_wp2_with fail
      refine hcall.out.mono ?_
      rintro e w2 ⟨g, rfl, hg, hg1, hb2⟩
      have hlen : ys.length = k := by have := congrArg List.length hab.out; simpa [List.length_take, Nat.min_eq_left hk] using this
      have hs1 : w.heap.size < wr.heap.size := hf.lt
      have hown2 := Lib.hid (OwnS.snoc (y := ⟨.slice (some ⟨g, 0, none⟩) xs[k].vals.length xs[k].vals.length, xs[k].vals, xs[k].sum⟩) (hown.below hb2) (own_owns hg1) (by omega) (fun x hx q hq => Nat.lt_of_lt_of_le ((hown.1 x hx).lt q hq).2 hg))
      have hf2 := hf.below hb2
      have hbw2 := hbw.trans (hb2.mono hbw.size)
      have hgne : w.heap.size ≠ g := by omega
      clear hf hbw hb2 c0 c1 hown hg1
      obtain ⟨u0, e0⟩ := hf2.cell (j := k * 2) (by omega)
      obtain ⟨u1, e1⟩ := hf2.cell (j := k * 2 + 1) (by omega)
      have f0 := hf2.frozen (k * 2)
      have f1 := hf2.frozen (k * 2 + 1)
      have hst := Lib.hid (hf2.put hlt (S.cells ⟨.slice (some ⟨g, 0, none⟩) xs[k].vals.length xs[k].vals.length, xs[k].vals, xs[k].sum⟩) rfl)
      have hwb := Lib.hid (below_setAll (g := w.heap.size) (S.cells ⟨.slice (some ⟨g, 0, none⟩) xs[k].vals.length xs[k].vals.length, xs[k].vals, xs[k].sum⟩) (k * 2) hbw2 (Nat.le_refl _))
      have hon := Lib.hid (show (ys ++ [(⟨.slice (some ⟨g, 0, none⟩) xs[k].vals.length xs[k].vals.length, xs[k].vals, xs[k].sum⟩ : S)]).map S.abs = (xs.take (k + 1)).map S.abs by
        rw [List.take_succ_eq_append_getElem hlt, List.map_append, List.map_append, hab.out]; rfl)
      have hown3 := Lib.hid (OwnS.setAll (g := w.heap.size) hown2.out (Nat.lt_succ_self _) (S.cells ⟨.slice (some ⟨g, 0, none⟩) xs[k].vals.length xs[k].vals.length, xs[k].vals, xs[k].sum⟩) (k * 2))
      clear hf2 hbw2 hown2 hcall
      go_wp2
      exact ⟨⟨k + 1, _, by omega, by go_num, hon, by rw [show ∀ a : S, cs (ys ++ [a]) = cs ys ++ S.cells a from fun a => by simp [cs]]; exact hst.out, hown3.out, hwb.out⟩, by simp [intOf]; omega⟩
    · obtain rfl : k = xs.length := by omega
      have hd := hf.done (by omega)
      rw [List.take_length] at hab
      replace hd := Lib.hid hd
      go_wp2
      go_ret
      exact ⟨ys, rfl, hab.out, hd.out, hown, hbw⟩
/-- how many elements in all -/
def tot (xs : List S) : Nat := (xs.map fun x => x.vals.length).sum
theorem tot_snoc (xs : List S) (s : S) : tot (xs ++ [s]) = tot xs + s.vals.length := by simp [tot]
theorem tot_take (xs : List S) (k : Nat) : tot (xs.take k) ≤ tot xs := by
  induction xs generalizing k with
  | nil => simp [tot]
  | cons a xs ih => cases k with
    | zero => simp [tot]
    | succ k => have := ih k; simp only [tot, List.take_succ_cons, List.map_cons, List.sum_cons] at this ⊢; omega
theorem tot_mem {xs : List S} {x : S} (h : x ∈ xs) : x.vals.length ≤ tot xs := by
  induction xs with
  | nil => simp at h
  | cons a xs ih =>
    simp only [tot, List.map_cons, List.sum_cons] at ih ⊢
    rcases List.mem_cons.1 h with rfl | h
    · omega
    · have := ih h; omega
def sz (xs : List S) (left : Int) : Int := if (xs.length : Int) + (tot xs : Int) ≤ left then left - (xs.length : Int) - (tot xs : Int) else -1
theorem sz_cases (xs : List S) (left : Int) (h0 : 0 ≤ left) : (∃ r : Int, sz xs left = r ∧ 0 ≤ r ∧ r ≤ left ∧ (xs.length : Int) ≤ left ∧ (tot xs : Int) ≤ left) ∨ sz xs left = -1 := by
  unfold sz
  split
  · exact .inl ⟨_, rfl, by omega, by omega, by omega, by omega⟩
  · exact .inr rfl
set_option maxRecDepth 100000 in
set_option maxHeartbeats 1600000 in
theorem sz_any {v : Value} {xs : List S} {w : World} (h1 : SRow w v xs) (left : Int) (h0 : 0 ≤ left) (hm : left ≤ 1048576) :
    Calls Try.prog 5 #[v, .int .i64 left] w fun e w' => e = .returned (.int .i64 (sz xs left)) ∧ Below w.heap.size w w' := by
  have hrows := Lib.hid h1.2
  obtain ⟨⟨A, c, rfl, -, hn, hnc, hcm, ha⟩, -⟩ := h1
  by_cases hl : (xs.length : Int) ≤ left
  · have d1 : decide (left - (xs.length : Int) < 0) = false := by simp; omega
    go_enter Try.func5, Try.ntmps5
    go_wp2
    go_loopw [1, 5] (fun l i wr => ∃ k : Nat, k ≤ xs.length ∧ i = .int .i64 k ∧ l = .int .i64 (left - (xs.length : Int) - (tot (xs.take k) : Int)) ∧ 0 ≤ left - (xs.length : Int) - (tot (xs.take k) : Int) ∧ Below w.heap.size w wr) (fun _ i _ => xs.length - (intOf i).toNat)
    case atStart => exact ⟨0, by omega, rfl, by simp [tot], by simp [tot]; omega, Below.refl _ _⟩
    case round =>
      obtain ⟨k, hk, rfl, rfl, hle, hbw⟩ := hrel
      by_cases hlt : k < xs.length
      · obtain ⟨b, off, rfl, hb, hc⟩ := ha (by omega)
        obtain ⟨p0, p1⟩ := cells_ (fun j u hu => (cells_of hbw b _ hb).trans (hc j u hu)) hlt
        have hvr : Row wr xs[k].v 1 xs[k].vals.length (ints xs[k].vals) := (hrows.out _ (List.getElem_mem hlt)).below hbw
        obtain ⟨A1, n1, l1, hvv⟩ : ∃ A1 n1 l1, xs[k].v = .slice A1 n1 l1 := by obtain ⟨A1, l1, h, -⟩ := hvr; exact ⟨_, _, _, h⟩
        rw [hvv] at p0 hvr
        replace hvv := Lib.hid hvv
        have hon := Lib.hid (show tot (xs.take (k + 1)) = tot (xs.take k) + xs[k].vals.length by rw [List.take_succ_eq_append_getElem hlt, tot_snoc])
        have ht := tot_take xs (k + 1)
        rw [hon.out] at ht
        clear hc ha
        generalize tot (xs.take k) = t at *
        have hc1 := Lib.hid (szState_any hvr xs[k].sum (left - (xs.length : Int) - (t : Int)) hle (by omega))
        clear hvr
        by_cases hneg : (xs[k].vals.length : Int) ≤ left - (xs.length : Int) - (t : Int)
        · rw [show State.szi xs[k].vals.length (left - (xs.length : Int) - (t : Int)) = left - (xs.length : Int) - (t : Int) - (xs[k].vals.length : Int) by unfold State.szi; rw [if_pos hneg]] at hc1
          have d2 : decide (left - (xs.length : Int) - (t : Int) - (xs[k].vals.length : Int) < 0) = false := by simp; omega
          clear ht
          go_wp2_with fail
          refine hc1.out.mono ?_
          rintro e w2 ⟨rfl, hb2⟩
          have hbx := hbw.trans (hb2.mono hbw.size)
          clear p0 p1 hc1
          go_wp2
          go_roundw
          case rel => exact ⟨k + 1, by omega, by go_num, by rw [hon.out]; go_num, by rw [hon.out]; omega, hbx⟩
          case measure => simp [intOf]; omega
        · rw [show State.szi xs[k].vals.length (left - (xs.length : Int) - (t : Int)) = -1 by unfold State.szi; rw [if_neg hneg]] at hc1
          have hv := Lib.hid (show sz xs left = -1 by unfold sz; rw [if_neg (by omega)])
          clear ht
          go_wp2_with fail
          refine hc1.out.mono ?_
          rintro e w2 ⟨rfl, hb2⟩
          have hbx := hbw.trans (hb2.mono hbw.size)
          clear p0 p1 hc1
          go_wp2
          go_ret
          exact ⟨by rw [hv.out]; rfl, hbx⟩
      · have hv := Lib.hid (show sz xs left = left - (xs.length : Int) - (tot (xs.take k) : Int) by
          rw [List.take_of_length_le (by omega)] at hle ⊢
          unfold sz; rw [if_pos (by omega)])
        go_wp2
        go_ret
        exact ⟨by rw [hv.out]; rfl, hbw⟩
  · have hv := Lib.hid (show sz xs left = -1 by unfold sz; rw [if_neg (by omega)])
    have d1 : decide (left - (xs.length : Int) < 0) = true := by simp; omega
    go_enter Try.func5, Try.ntmps5
    go_wp2
    go_ret
    exact ⟨by rw [hv.out]; rfl, Below.refl _ _⟩
theorem srow_of {w : World} {v : Value} {e g n : Nat} {ys : List S} (o : Own w v e 2 g n (cs ys)) (hl : ys.length = n) (p : ∀ x ∈ ys, VRow w x) : SRow w v ys := by
  subst hl; exact ⟨o.row, p⟩
theorem abs_len {xs ys : List S} (h : xs.map S.abs = ys.map S.abs) : xs.length = ys.length := by simpa using congrArg List.length h
theorem abs_get {xs ys : List S} (h : xs.map S.abs = ys.map S.abs) {k : Nat} (h1 : k < xs.length) (h2 : k < ys.length) : xs[k].vals = ys[k].vals ∧ xs[k].sum = ys[k].sum := by
  have := congrArg (fun l => l[k]?) h
  simp [h1, h2, S.abs] at this
  exact this
set_option maxRecDepth 100000 in
set_option maxHeartbeats 1600000 in
theorem eq_self {v1 v2 : Value} {xs ys : List S} {w : World} (h1 : SRow w v1 xs) (h2 : SRow w v2 ys) (hab : xs.map S.abs = ys.map S.abs) :
    Calls Try.prog 11 #[v1, v2] w fun e w' => e = .returned (.bool true) ∧ Below w.heap.size w w' := by
  have hl := abs_len hab
  replace hab := Lib.hid hab
  have hr1 := Lib.hid h1.2
  have hr2 := Lib.hid h2.2
  obtain ⟨⟨A, c, rfl, -, hn, hnc, hcm, ha⟩, -⟩ := h1
  obtain ⟨⟨A2, c2, rfl, -, hn2, hnc2, hcm2, ha2⟩, -⟩ := h2
  have d1 : (xs.length == ys.length) = true := by simpa using hl
  have d2 : (xs.length != ys.length) = false := by simpa using hl
  have d3 : ((xs.length : Int) != (ys.length : Int)) = false := by simp; omega
  have hle : xs.length ≤ ys.length := by omega
  have hge : ys.length ≤ xs.length := by omega
  clear hl
  go_enter Try.func11, Try.ntmps11
  go_wp2
  go_loopw [5] (fun i wr => ∃ k : Nat, k ≤ xs.length ∧ i = .int .i64 k ∧ Below w.heap.size w wr) (fun i _ => xs.length - (intOf i).toNat)
  case atStart => exact ⟨0, by omega, rfl, Below.refl _ _⟩
  case round =>
    obtain ⟨k, hk, rfl, hbw⟩ := hrel
    by_cases hlt : k < xs.length
    · have hlt2 : k < ys.length := by omega
      obtain ⟨b, off, rfl, hb, hc⟩ := ha (by omega)
      obtain ⟨b2, off2, rfl, hb2, hc2⟩ := ha2 (by omega)
      obtain ⟨p0, p1⟩ := cells_ (fun j u hu => (cells_of hbw b _ hb).trans (hc j u hu)) hlt
      obtain ⟨q0, q1⟩ := cells_ (fun j u hu => (cells_of hbw b2 _ hb2).trans (hc2 j u hu)) hlt2
      have hv1 := (hr1.out _ (List.getElem_mem hlt)).below hbw
      have hv2 := (hr2.out _ (List.getElem_mem hlt2)).below hbw
      obtain ⟨a1, a2⟩ := abs_get hab.out hlt hlt2
      unfold VRow at hv1 hv2
      rw [← a1] at hv2
      rw [← a2] at q1
      have hcall := Lib.hid (fun (W : World) (hW : Below wr.heap.size wr W) => eqState_self (hv1.below hW) (hv2.below hW) xs[k].sum)
      obtain ⟨A1, n1, l1, hvv⟩ : ∃ A1 n1 l1, xs[k].v = .slice A1 n1 l1 := by obtain ⟨A1, l1, h, -⟩ := hv1; exact ⟨_, _, _, h⟩
      obtain ⟨A3, n3, l3, hvv2⟩ : ∃ A1 n1 l1, ys[k].v = .slice A1 n1 l1 := by obtain ⟨A1, l1, h, -⟩ := hv2; exact ⟨_, _, _, h⟩
      rw [hvv] at p0 hcall
      rw [hvv2] at q0 hcall
      clear hc hc2 ha ha2 a1 a2 hvv hvv2 hv1 hv2
      have i0 : (0 : Int) ≤ (k : Int) := by omega
      have i1 : (k : Int) < (xs.length : Int) := by omega
      have i2 : (k : Int) < (ys.length : Int) := by omega
      have z1 := Nat.lt_of_lt_of_le hb hbw.size
      have z2 := Nat.lt_of_lt_of_le hb2 hbw.size
      go_wp2
      refine wp_region_below [(0, true), (1, true), (2, true), (3, true), (4, true), (5, true), (6, true), (7, true), (8, false), (9, false)] (by kernel_rfl) (by kernel_rfl) (fun d _ _ _ _ h => by cases d <;> exact h) ?_
      repeat
       (refine mix_still rfl (by rfl) ?_
        apply Exists.intro
        refine ⟨fun w' hS => ?_, ?_⟩
        · (have hS' := cells_of hS; clear hS; go_simp; (try go_bits); first | with_reducible rfl | (refine (if_pos ?_).trans ?_; omega; with_reducible rfl))
        (go_simp; (try go_bits)))
      refine mix_loud rfl (fun K hK => ?_)
      (go_simp; (try go_bits))
      refine (hcall.out _ (to_drew _ _)).mono ?_
      rintro _ w1 ⟨rfl, hb1⟩
      replace hb1 := of_drew hb1
      refine hK _ _ (fun _ => hb1) ?_
      clear hK K
      (go_simp; (try go_bits))
      refine mix_loud rfl (fun K hK => ?_)
      (go_simp; (try go_bits))
      refine hK _ _ (no_need (by kernel_rfl)) ?_
      clear hK K
      try (go_simp; (try go_bits))
      refine mix_nil ?_
      have hbx := hbw.trans (hb1.mono hbw.size)
      clear p0 p1 q0 q1
      go_wp2
      go_roundw
      case rel => exact ⟨k + 1, by omega, by go_num, hbx⟩
      case measure => simp [intOf]; omega
    · go_wp2
      go_ret
      exact ⟨rfl, hbw⟩
/-- true for all below k -/
def allTo (f : Nat → Bool) : Nat → Bool
  | 0 => true
  | k + 1 => allTo f k && f k
theorem allTo_on {f : Nat → Bool} {k : Nat} (h : allTo f k = true) (h1 : f k = true) : allTo f (k + 1) = true := by simp [allTo, h, h1]
theorem allTo_off {f : Nat → Bool} {k : Nat} (h1 : f k = false) : ∀ n, k < n → allTo f n = false
  | 0, h => absurd h (Nat.not_lt_zero _)
  | n + 1, h => by
    rcases Nat.lt_or_ge k n with h' | h'
    · simp [allTo, allTo_off h1 n h']
    · obtain rfl : k = n := by omega
      simp [allTo, h1]
def lessA (a b : List Int × Int) : Bool := lessState a.1 b.1 a.2 b.2
def inPlace (l : List (List Int × Int)) (i : Nat) : Bool := i == 0 || !(lessA (l.getD i ([], 0)) (l.getD ((i + 1) / 2 - 1) ([], 0)))
def heapOk (l : List (List Int × Int)) : Bool := allTo (inPlace l) l.length
theorem abs_getD {xs : List S} {k : Nat} (h : k < xs.length) : (xs.map S.abs).getD k ([], 0) = (xs[k].vals, xs[k].sum) := by
  simp [List.getD, h, S.abs]
theorem inPlace_at {xs : List S} {k u : Nat} (h0 : 1 ≤ k) (h : k < xs.length) (hu : (k + 1) / 2 - 1 = u) (h2 : u < xs.length) : inPlace (xs.map S.abs) k = !(lessState xs[k].vals xs[u].vals xs[k].sum xs[u].sum) := by
  unfold inPlace
  rw [hu, abs_getD h, abs_getD h2]
  have : (k == 0) = false := by simp; omega
  simp [this, lessA]
theorem heap_one {l : List (List Int × Int)} : allTo (inPlace l) 1 = true := by simp [allTo, inPlace]
theorem heap_end {l : List (List Int × Int)} {k : Nat} (h : allTo (inPlace l) k = true) (h1 : 1 ≤ k) (h2 : l.length ≤ k) (h3 : k ≤ max 1 l.length) : heapOk l = true := by
  unfold heapOk
  rcases Nat.lt_or_ge l.length 1 with h4 | h4
  · have : l.length = 0 := by omega
    rw [this]; rfl
  · have : l.length = k := by omega
    rw [this]; exact h
theorem above_any {k u : Nat} (h0 : 1 ≤ k) (hu : (k + 1) / 2 - 1 = u) (hk : k ≤ 4611686018427387904) (w : World) : Calls Try.prog 33 #[.int .i64 k] w fun e w' => e = .returned (.int .i64 (u : Int)) ∧ w = w' := by
  have e1 : (((k : Int) + 1) / 2 - 1) = (u : Int) := by omega
  clear hu
  go_enter Try.func33, Try.ntmps33
  go_wp2
  go_ret
  exact ⟨rfl, rfl⟩
end Go.Proofs.Ytocplbhgklfgeaa.States

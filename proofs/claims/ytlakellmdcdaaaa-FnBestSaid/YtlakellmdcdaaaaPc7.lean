/-
  The contracts of impl.NextOf and spec.NextOf, and of slices.Clone at []int for a slice of any kind.
  Conditions: the piece reads as a piece; 2^20 values at most.
-/
import Derived.Test.YtlakellmdcdaaaaPc6
import Derived.Test.YtlakellmdcdaaaaPc1a
import Derived.Test.YtlakellmdcdaaaaShelf
namespace Go.Proofs.Ytlakellmdcdaaaa.Pc
open Go.RowKit Go.Proofs.Ytlakellmdcdaaaa.Row Go.Proofs.Ytlakellmdcdaaaa.Mem Go.Proofs.Ytlakellmdcdaaaa.Mix Go.Proofs.Ytlakellmdcdaaaa.Recs Go.Proofs.Ytlakellmdcdaaaa.Owns Go.Proofs.Ytlakellmdcdaaaa.Blocks Go.Proofs.Ytlakellmdcdaaaa.Piece Go.Proofs.Ytlakellmdcdaaaa.All Go.Proofs.Ytlakellmdcdaaaa.Ints
def nextOf (p : P) (xs : List Int) : List Int × Bool := if valuesOk p xs = true ∧ (nextTo p xs.length xs).2 = true then ((nextTo p xs.length xs).1, true) else ([], false)
theorem nextOf_len (p : P) (xs : List Int) : (nextOf p xs).1.length ≤ xs.length := by
  unfold nextOf
  split
  · rw [nextTo_len]; exact Nat.le_refl _
  · simp
theorem own_nil (w : World) (base e size : Nat) : w.ownsRow base e size (.slice none 0 0) ([] : List Int).length (ints []) := ⟨by simp, .inl ⟨rfl, rfl⟩⟩
theorem valuesOk_same {p : P} {xs : List Int} (h : valuesOk p xs = true) : xs.length = p.rules.length := by
  unfold valuesOk at h
  rw [Bool.and_eq_true] at h
  exact of_decide_eq_true h.1
theorem clone_any {v : Value} {xs : List Int} {w : World} (h : Row w v 1 xs.length (ints xs)) (hb8 : xs.length * 8 ≤ 140737488355328) :
    Calls Try.prog 85 #[v] w fun e w' => ∃ v', e = .returned v' ∧ w'.ownsRow w.heap.size 3 1 v' xs.length (ints xs) ∧ Below w.heap.size w w' := by
  obtain ⟨A, c, rfl, hl, hn, hnc, hcm, ha⟩ := h
  cases A with
  | none =>
    by_cases h0 : 0 < xs.length
    · obtain ⟨b, off, e, _⟩ := ha h0
      cases e
    · obtain rfl : xs = [] := List.eq_nil_of_length_eq_zero (by omega)
      refine (Try.slices_Clone_int_nil 0 c w).mono ?_
      rintro e w' ⟨rfl, rfl⟩
      exact ⟨_, rfl, own_nil _ _ _ _, Below.refl _ _⟩
  | some a =>
    by_cases h0 : 0 < xs.length
    · obtain ⟨b, off, e, hlt, hc⟩ := ha h0
      cases e
      refine (Try.slices_Clone_int b off xs.length c xs w (Nat.le_refl _) hb8 (fun j hj => hc j _ (by simp [ints, hj]))).mono ?_
      rintro e w' ⟨v', rfl, ho, -, hb⟩
      rw [List.take_length] at ho
      exact ⟨v', rfl, ho, hb⟩
    · obtain rfl : xs = [] := List.eq_nil_of_length_eq_zero (by omega)
      refine (Try.slices_Clone_int_zero a c w).mono ?_
      rintro e w' ⟨v', rfl, ho, -, hb⟩
      exact ⟨v', rfl, ho, hb⟩
set_option maxRecDepth 100000 in
set_option maxHeartbeats 3200000 in
theorem impl_NextOf {p : P} {r c s t v : Value} {xs : List Int} {w : World} (h : PRow w p r c s t) (hv : Row w v 1 xs.length (ints xs)) (hmx : xs.length ≤ 1048576) :
    Calls Try.prog 36 #[pv p.ind r c s t, v] w fun e w' => ∃ v', e = .returned (.tuple #[v', .bool (nextOf p xs).2]) ∧ w'.ownsRow w.heap.size 3 1 v' (nextOf p xs).1.length (ints (nextOf p xs).1) ∧ Below w.heap.size w w' := by
  obtain ⟨⟨A1, m1, rfl⟩, ⟨A2, m2, rfl⟩, ⟨A3, m3, rfl⟩, ⟨A4, m4, rfl⟩⟩ := h.lits
  obtain ⟨Av, cv, rfl, -⟩ := id hv
  have ax := (Below.refl w.heap.size w).alloc (Nat.le_refl _) (.cells #[.int .i64 p.ind, .slice A1 p.rules.length m1, .slice A2 p.chunks.length m2, .slice A3 p.spans.length m3, .slice A4 p.ties.length m4] 35)
  have k := heap_alloc_new w (.cells #[.int .i64 p.ind, .slice A1 p.rules.length m1, .slice A2 p.chunks.length m2, .slice A3 p.spans.length m3, .slice A4 p.ties.length m4] 35)
  obtain ⟨W, hW⟩ : ∃ W, w.alloc (.cells #[.int .i64 p.ind, .slice A1 p.rules.length m1, .slice A2 p.chunks.length m2, .slice A3 p.spans.length m3, .slice A4 p.ties.length m4] 35) = W := ⟨_, rfl⟩
  rw [hW] at ax k
  replace hW := Lib.hid hW
  have hval := impl_ValuesOk (h.below ax) (hv.below ax)
  have sx := ax.size
  cases hok : valuesOk p xs
  · rw [hok] at hval
    replace hval := Lib.hid hval
    have hno : Hid (nextOf p xs = ([], false)) := Lib.hid (by unfold nextOf; rw [hok]; rfl)
    replace h := Lib.hid h
    replace hv := Lib.hid hv
    replace k := Lib.hid k
    clear hok
    go_enter Try.func36, Try.ntmps36
    go_wp2_with fail
    rw [hW.out]
    refine hval.out.mono ?_
    rintro e w1 ⟨rfl, b1⟩
    go_wp2
    go_ret2
    rw [hno.out]
    exact ⟨_, rfl, own_nil _ _ _ _, ax.trans (b1.mono sx)⟩
  · rw [hok] at hval
    replace hval := Lib.hid hval
    have hls := valuesOk_same hok
    have hyes : Hid (nextOf p xs = if (nextTo p xs.length xs).2 = true then ((nextTo p xs.length xs).1, true) else ([], false)) := Lib.hid (by unfold nextOf; rw [hok]; simp)
    have hlen := nextTo_len p xs.length xs
    replace h := Lib.hid (h.below ax)
    replace hv := Lib.hid (hv.below ax)
    replace k := Lib.hid k
    replace hls := Lib.hid hls
    replace hlen := Lib.hid hlen
    clear hok
    obtain ⟨bb, hbb⟩ : ∃ b, (nextTo p xs.length xs).2 = b := ⟨_, rfl⟩
    replace hbb := Lib.hid hbb
    go_enter Try.func36, Try.ntmps36
    go_wp2_with fail
    rw [hW.out]
    refine hval.out.mono ?_
    rintro e w1 ⟨rfl, b1⟩
    have hB := Lib.hid (ax.trans (b1.mono sx))
    replace h := Lib.hid (h.out.below b1)
    replace hv := Lib.hid (hv.out.below b1)
    replace k := Lib.hid (blk_below k.out b1)
    clear b1 ax sx hval hW
    go_wp2_with fail
    refine (clone_any hv.out (by omega)).mono ?_
    rintro e w2 ⟨v2, rfl, o2, b2⟩
    have hnx := Lib.hid (impl_next h.out b2 hls.out o2)
    have lk := blk_lt k.out
    replace k := Lib.hid (blk_below k.out b2)
    obtain ⟨x0, x1, x2, x3, x4⟩ := blk5 k.out
    have lk2 := blk_lt k.out
    have hr : Hid (∀ q, v2.ownBlock = some q → w1.heap.size ≤ q) := Lib.hid fun q hq => (o2.lt q hq).1
    clear o2
    go_wp2_with fail
    refine hnx.out.mono ?_
    rintro e w3 ⟨rfl, o3, g3⟩
    rw [hbb.out]
    have hB3 := Lib.hid (hB.out.trans ((b2.grown g3 b2.size hr.out).mono hB.out.size))
    replace o3 := Lib.hid o3
    have s1 := hB.out.size
    clear x0 x1 x2 x3 x4 lk lk2 g3 b2 hr
    cases bb
    · go_wp2
      go_ret2
      rw [hyes.out, if_neg (by rw [hbb.out]; decide)]
      exact ⟨_, rfl, own_nil _ _ _ _, hB3.out⟩
    · go_wp2
      go_ret2
      rw [hyes.out, if_pos hbb.out]
      exact ⟨v2, rfl, own_mono (by rw [hlen.out]; exact o3.out) s1, hB3.out⟩
set_option maxRecDepth 100000 in
set_option maxHeartbeats 3200000 in
theorem spec_NextOf {p : P} {r c s t v : Value} {xs : List Int} {w : World} (h : PRow w p r c s t) (hv : Row w v 1 xs.length (ints xs)) (hmx : xs.length ≤ 1048576) :
    Calls Try.prog 35 #[pv p.ind r c s t, v] w fun e w' => ∃ v', e = .returned (.tuple #[v', .bool (nextOf p xs).2]) ∧ w'.ownsRow w.heap.size 3 1 v' (nextOf p xs).1.length (ints (nextOf p xs).1) ∧ Below w.heap.size w w' := by
  obtain ⟨⟨A1, m1, rfl⟩, ⟨A2, m2, rfl⟩, ⟨A3, m3, rfl⟩, ⟨A4, m4, rfl⟩⟩ := h.lits
  obtain ⟨Av, cv, rfl, -⟩ := id hv
  have ax := (Below.refl w.heap.size w).alloc (Nat.le_refl _) (.cells #[.int .i64 p.ind, .slice A1 p.rules.length m1, .slice A2 p.chunks.length m2, .slice A3 p.spans.length m3, .slice A4 p.ties.length m4] 35)
  have k := heap_alloc_new w (.cells #[.int .i64 p.ind, .slice A1 p.rules.length m1, .slice A2 p.chunks.length m2, .slice A3 p.spans.length m3, .slice A4 p.ties.length m4] 35)
  obtain ⟨W, hW⟩ : ∃ W, w.alloc (.cells #[.int .i64 p.ind, .slice A1 p.rules.length m1, .slice A2 p.chunks.length m2, .slice A3 p.spans.length m3, .slice A4 p.ties.length m4] 35) = W := ⟨_, rfl⟩
  rw [hW] at ax k
  have sW : W.heap.size = w.heap.size + 1 := by rw [← hW]; simp
  replace hW := Lib.hid hW
  have ae := (Below.refl W.heap.size W).alloc (Nat.le_refl _) (.cells #[] 3)
  have oe := own_empty W 3 1
  obtain ⟨W2, hW2⟩ : ∃ W2, W.alloc (.cells #[] 3) = W2 := ⟨_, rfl⟩
  rw [hW2] at ae oe
  have sx := ax.size
  have se := ae.size
  have hW3 : Hid ((w.alloc (.cells #[.int .i64 p.ind, .slice A1 p.rules.length m1, .slice A2 p.chunks.length m2, .slice A3 p.spans.length m3, .slice A4 p.ties.length m4] 35)).alloc (.cells #[] 3) = W2) := Lib.hid (by rw [hW.out, hW2])
  obtain ⟨v2, w2, hrun, o2, b2, g2, ob2⟩ := append_row EI (w0 := W) oe ae ((hv.below ax).below ae) (by simp [ints, Value.oneCell']) (by simp only [maxLen]; omega) (by omega)
  rw [sW, ← hW3.out] at hrun
  simp only [Nat.zero_add, List.nil_append] at o2
  replace h := h.below ax
  have hvn := Lib.hid ((hv.below ax).below b2)
  have hval := spec_ValuesOk (h.below b2) ((hv.below ax).below b2)
  have k2 := blk_below k b2
  have lk := blk_lt k2
  obtain ⟨x0, x1, x2, x3, x4⟩ := blk5 k2
  have lW := blk_lt k
  have k3 := Lib.hid k2
  clear ae oe g2 ob2 hW2 hW3 k k2
  replace hrun := Lib.hid hrun
  have hB := Lib.hid (ax.trans (b2.mono sx))
  have s2 := hB.out.size
  have sb := b2.size
  clear ax
  replace o2 := Lib.hid o2
  replace b2 := Lib.hid b2
  replace h := Lib.hid h
  replace hv := Lib.hid hv
  cases hok : valuesOk p xs
  · rw [hok] at hval
    replace hval := Lib.hid hval
    have hno : Hid (nextOf p xs = ([], false)) := Lib.hid (by unfold nextOf; rw [hok]; rfl)
    clear hok
    go_enter Try.func35, Try.ntmps35
    go_wp2_with (first | (at_builtin; refine wpList_append_run rfl rfl hrun.out ?_) | (go_at_call 20; refine hval.out.mono ?_; rintro e w3 ⟨rfl, b3⟩))
    have sW := b3.size
    go_ret2
    rw [hno.out]
    exact ⟨_, rfl, own_mono (own_empty w3 3 1) (by omega), ((hB.out.trans (b3.mono s2)).alloc (by omega) _)⟩
  · rw [hok] at hval
    replace hval := Lib.hid hval
    have hls := Lib.hid (valuesOk_same hok)
    have hyes : Hid (nextOf p xs = if (nextTo p xs.length xs).2 = true then ((nextTo p xs.length xs).1, true) else ([], false)) := Lib.hid (by unfold nextOf; rw [hok]; simp)
    have hlen := Lib.hid (nextTo_len p xs.length xs)
    clear hok
    obtain ⟨bb, hbb⟩ : ∃ b, (nextTo p xs.length xs).2 = b := ⟨_, rfl⟩
    replace hbb := Lib.hid hbb
    have hr : Hid (∀ q, v2.ownBlock = some q → W.heap.size ≤ q) := Lib.hid fun q hq => (o2.out.lt q hq).1
    have kk : Hid (w2.heap[w.heap.size]? = some (.cells #[.int .i64 p.ind, .slice A1 p.rules.length m1, .slice A2 p.chunks.length m2, .slice A3 p.spans.length m3, .slice A4 p.ties.length m4] 35 (0, 0))) := k3
    go_enter Try.func35, Try.ntmps35
    go_wp2_with (at_builtin; refine wpList_append_run rfl rfl hrun.out ?_)
    refine hval.out.mono ?_
    rintro e w3 ⟨rfl, b3⟩
    replace kk := Lib.hid (blk_below kk.out b3)
    have hB3 := Lib.hid (hB.out.trans (b3.mono s2))
    have b33 := b2.out.trans (b3.mono b2.out.size)
    have hnx := Lib.hid (spec_next h.out b33 hls.out (own_below o2.out b3))
    clear x0 x1 x2 x3 x4 lk
    have lk := blk_lt kk.out
    obtain ⟨x0, x1, x2, x3, x4⟩ := blk5 kk.out
    have s33 := b33.size
    replace b33 := Lib.hid b33
    clear b3 b2 o2 hval
    go_wp2_with fail
    refine hnx.out.mono ?_
    rintro e w4 ⟨rfl, o4, g4⟩
    rw [hbb.out]
    have s3 := hB3.out.size
    have hB4 := Lib.hid (hB3.out.grown g4 s3 (fun q hq => Nat.le_trans (Nat.le_of_lt lW) (hr.out q hq)))
    have s4 := hB4.out.size
    replace o4 := Lib.hid o4
    clear x0 x1 x2 x3 x4 lk g4 b33
    cases bb
    · go_wp2
      go_ret2
      rw [hyes.out, if_neg (by rw [hbb.out]; decide)]
      exact ⟨_, rfl, own_mono (own_empty w4 3 1) s4, hB4.out.alloc s4 _⟩
    · go_wp2
      go_ret2
      rw [hyes.out, if_pos hbb.out]
      exact ⟨v2, rfl, own_mono (by rw [hlen.out]; exact o4.out) (by omega), hB4.out⟩
end Go.Proofs.Ytlakellmdcdaaaa.Pc

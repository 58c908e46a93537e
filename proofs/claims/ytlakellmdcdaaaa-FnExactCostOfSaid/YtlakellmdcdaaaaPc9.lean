/-
  The contracts of impl.Render and spec.Render.
  Conditions: the piece reads as a piece; texts of 2^20 bytes at most together.
-/
import Derived.Test.YtlakellmdcdaaaaPc8
import Derived.Test.YtlakellmdcdaaaaPc4e
namespace Go.Proofs.Ytlakellmdcdaaaa.Pc
open Go.RowKit Go.Proofs.Ytlakellmdcdaaaa.Row Go.Proofs.Ytlakellmdcdaaaa.Mem Go.Proofs.Ytlakellmdcdaaaa.Mix Go.Proofs.Ytlakellmdcdaaaa.Recs Go.Proofs.Ytlakellmdcdaaaa.Owns Go.Proofs.Ytlakellmdcdaaaa.Blocks Go.Proofs.Ytlakellmdcdaaaa.Piece Go.Proofs.Ytlakellmdcdaaaa.All Go.Proofs.Ytlakellmdcdaaaa.Ints Go.Proofs.Ytlakellmdcdaaaa.Strs Go.Proofs.Ytlakellmdcdaaaa.Rep
def renderOf (p : P) (xs : List Int) : List ByteArray := if pieceOk p = true ∧ valuesOk p xs = true then renderTo p xs else []
theorem renderTo_len (p : P) (xs : List Int) : (renderTo p xs).length ≤ p.chunks.length + 1 := by
  unfold renderTo
  rw [List.length_append, List.length_singleton]
  have := ren_len p xs p.chunks.length
  omega
theorem renderOf_len (p : P) (xs : List Int) : (renderOf p xs).length ≤ p.chunks.length + 1 := by
  unfold renderOf
  split
  · exact renderTo_len p xs
  · simp
theorem own_nilS (w : World) (base e size : Nat) : w.ownsRow base e size (.slice none 0 0) ([] : List ByteArray).length (strs []) := ⟨by simp, .inl ⟨rfl, rfl⟩⟩
set_option maxRecDepth 100000 in
set_option maxHeartbeats 3200000 in
theorem impl_Render {p : P} {r c s t v : Value} {xs : List Int} {w : World} (h : PRow w p r c s t) (hv : Row w v 1 xs.length (ints xs)) (ht : tot (Chunk.texts p.chunks) ≤ 1048576) :
    Calls Try.prog 38 #[pv p.ind r c s t, v] w fun e w' => ∃ v', e = .returned v' ∧ w'.ownsRow w.heap.size 9 1 v' (renderOf p xs).length (strs (renderOf p xs)) ∧ Below w.heap.size w w' := by
  obtain ⟨⟨A1, m1, rfl⟩, ⟨A2, m2, rfl⟩, ⟨A3, m3, rfl⟩, ⟨A4, m4, rfl⟩⟩ := h.lits
  have hst := texts_le ht
  have ax := (Below.refl w.heap.size w).alloc (Nat.le_refl _) (.cells #[.int .i64 p.ind, .slice A1 p.rules.length m1, .slice A2 p.chunks.length m2, .slice A3 p.spans.length m3, .slice A4 p.ties.length m4] 35)
  have k := heap_alloc_new w (.cells #[.int .i64 p.ind, .slice A1 p.rules.length m1, .slice A2 p.chunks.length m2, .slice A3 p.spans.length m3, .slice A4 p.ties.length m4] 35)
  obtain ⟨W, hW⟩ : ∃ W, w.alloc (.cells #[.int .i64 p.ind, .slice A1 p.rules.length m1, .slice A2 p.chunks.length m2, .slice A3 p.spans.length m3, .slice A4 p.ties.length m4] 35) = W := ⟨_, rfl⟩
  rw [hW] at ax k
  replace hW := Lib.hid hW
  replace h := Lib.hid (h.below ax)
  replace hv := Lib.hid (hv.below ax)
  replace k := Lib.hid k
  replace ht := Lib.hid ht
  have hB := Lib.hid ax
  clear ax
  obtain ⟨bp, hbp⟩ : ∃ b, pieceOk p = b := ⟨_, rfl⟩
  obtain ⟨bv, hbv⟩ : ∃ b, valuesOk p xs = b := ⟨_, rfl⟩
  have hp := impl_PieceOk h.out hst
  rw [hbp] at hp
  replace hp := Lib.hid hp
  replace hbp := Lib.hid hbp
  replace hbv := Lib.hid hbv
  clear hst
  go_enter Try.func38, Try.ntmps38
  go_wp2_with fail
  rw [hW.out]
  refine hp.out.mono ?_
  rintro e w1 ⟨rfl, b1⟩
  replace hB := Lib.hid (hB.out.trans (b1.mono hB.out.size))
  replace k := Lib.hid (blk_below k.out b1)
  replace h := Lib.hid (h.out.below b1)
  replace hv := Lib.hid (hv.out.below b1)
  clear b1 hp hW
  have l1 := blk_lt k.out
  obtain ⟨x0, x1, x2, x3, x4⟩ := blk5 k.out
  cases bp
  · have hno := Lib.hid (show renderOf p xs = [] by unfold renderOf; rw [hbp.out]; simp)
    go_wp2
    go_ret
    rw [hno.out]
    exact ⟨_, rfl, own_nilS _ _ _ _, hB.out⟩
  · have hvv := impl_ValuesOk h.out hv.out
    rw [hbv.out] at hvv
    replace hvv := Lib.hid hvv
    go_wp2_with fail
    refine hvv.out.mono ?_
    rintro e w2 ⟨rfl, b2⟩
    replace hB := Lib.hid (hB.out.trans (b2.mono hB.out.size))
    replace k := Lib.hid (blk_below k.out b2)
    replace h := Lib.hid (h.out.below b2)
    replace hv := Lib.hid (hv.out.below b2)
    clear b2 hvv l1 x0 x1 x2 x3 x4
    have l1 := blk_lt k.out
    obtain ⟨x0, x1, x2, x3, x4⟩ := blk5 k.out
    cases bv
    · have hno := Lib.hid (show renderOf p xs = [] by unfold renderOf; rw [hbv.out]; simp)
      go_wp2
      go_ret
      rw [hno.out]
      exact ⟨_, rfl, own_nilS _ _ _ _, hB.out⟩
    · have hyes := Lib.hid (show renderOf p xs = renderTo p xs by unfold renderOf; rw [hbp.out, hbv.out]; simp)
      have hr := Lib.hid (impl_render h.out hv.out (right_of hbp.out) (valuesOk_same hbv.out) ht.out)
      go_wp2_with fail
      refine hr.out.mono ?_
      rintro e w3 ⟨v3, rfl, o3, b3⟩
      have s2 := hB.out.size
      replace hB := Lib.hid (hB.out.trans (b3.mono s2))
      rw [← hyes.out] at o3
      replace o3 := Lib.hid (own_mono o3 s2)
      clear b3 x0 x1 x2 x3 x4 l1 hr
      go_wp2
      go_ret
      exact ⟨_, rfl, o3.out, hB.out⟩
set_option maxRecDepth 100000 in
set_option maxHeartbeats 3200000 in
theorem spec_Render {p : P} {r c s t v : Value} {xs : List Int} {w : World} (h : PRow w p r c s t) (hv : Row w v 1 xs.length (ints xs)) (ht : tot (Chunk.texts p.chunks) ≤ 1048576) :
    Calls Try.prog 37 #[pv p.ind r c s t, v] w fun e w' => ∃ v', e = .returned v' ∧ w'.ownsRow w.heap.size 9 1 v' (renderOf p xs).length (strs (renderOf p xs)) ∧ Below w.heap.size w w' := by
  obtain ⟨⟨A1, m1, rfl⟩, ⟨A2, m2, rfl⟩, ⟨A3, m3, rfl⟩, ⟨A4, m4, rfl⟩⟩ := h.lits
  have hst := texts_le ht
  have ax := (Below.refl w.heap.size w).alloc (Nat.le_refl _) (.cells #[.int .i64 p.ind, .slice A1 p.rules.length m1, .slice A2 p.chunks.length m2, .slice A3 p.spans.length m3, .slice A4 p.ties.length m4] 35)
  have k := heap_alloc_new w (.cells #[.int .i64 p.ind, .slice A1 p.rules.length m1, .slice A2 p.chunks.length m2, .slice A3 p.spans.length m3, .slice A4 p.ties.length m4] 35)
  obtain ⟨W, hW⟩ : ∃ W, w.alloc (.cells #[.int .i64 p.ind, .slice A1 p.rules.length m1, .slice A2 p.chunks.length m2, .slice A3 p.spans.length m3, .slice A4 p.ties.length m4] 35) = W := ⟨_, rfl⟩
  rw [hW] at ax k
  replace hW := Lib.hid hW
  replace h := Lib.hid (h.below ax)
  replace hv := Lib.hid (hv.below ax)
  replace k := Lib.hid k
  replace ht := Lib.hid ht
  have hB := Lib.hid ax
  clear ax
  obtain ⟨bp, hbp⟩ : ∃ b, pieceOk p = b := ⟨_, rfl⟩
  obtain ⟨bv, hbv⟩ : ∃ b, valuesOk p xs = b := ⟨_, rfl⟩
  have hp := spec_PieceOk h.out hst
  rw [hbp] at hp
  replace hp := Lib.hid hp
  replace hbp := Lib.hid hbp
  replace hbv := Lib.hid hbv
  clear hst
  go_enter Try.func37, Try.ntmps37
  go_wp2_with fail
  rw [hW.out]
  refine hp.out.mono ?_
  rintro e w1 ⟨rfl, b1⟩
  replace hB := Lib.hid (hB.out.trans (b1.mono hB.out.size))
  replace k := Lib.hid (blk_below k.out b1)
  replace h := Lib.hid (h.out.below b1)
  replace hv := Lib.hid (hv.out.below b1)
  clear b1 hp hW
  have l1 := blk_lt k.out
  obtain ⟨x0, x1, x2, x3, x4⟩ := blk5 k.out
  cases bp
  · have hno := Lib.hid (show renderOf p xs = [] by unfold renderOf; rw [hbp.out]; simp)
    go_wp2
    go_ret
    rw [hno.out]
    exact ⟨_, rfl, own_mono (own_empty _ 9 1) hB.out.size, hB.out.alloc hB.out.size _⟩
  · have hvv := spec_ValuesOk h.out hv.out
    rw [hbv.out] at hvv
    replace hvv := Lib.hid hvv
    go_wp2_with fail
    refine hvv.out.mono ?_
    rintro e w2 ⟨rfl, b2⟩
    replace hB := Lib.hid (hB.out.trans (b2.mono hB.out.size))
    replace k := Lib.hid (blk_below k.out b2)
    replace h := Lib.hid (h.out.below b2)
    replace hv := Lib.hid (hv.out.below b2)
    clear b2 hvv l1 x0 x1 x2 x3 x4
    have l1 := blk_lt k.out
    obtain ⟨x0, x1, x2, x3, x4⟩ := blk5 k.out
    cases bv
    · have hno := Lib.hid (show renderOf p xs = [] by unfold renderOf; rw [hbv.out]; simp)
      go_wp2
      go_ret
      rw [hno.out]
      exact ⟨_, rfl, own_mono (own_empty _ 9 1) hB.out.size, hB.out.alloc hB.out.size _⟩
    · have hyes := Lib.hid (show renderOf p xs = renderTo p xs by unfold renderOf; rw [hbp.out, hbv.out]; simp)
      have hr := Lib.hid (spec_render h.out hv.out (right_of hbp.out) (valuesOk_same hbv.out) ht.out)
      go_wp2_with fail
      refine hr.out.mono ?_
      rintro e w3 ⟨v3, rfl, o3, b3⟩
      have s2 := hB.out.size
      replace hB := Lib.hid (hB.out.trans (b3.mono s2))
      rw [← hyes.out] at o3
      replace o3 := Lib.hid (own_mono o3 s2)
      clear b3 x0 x1 x2 x3 x4 l1 hr
      go_wp2
      go_ret
      exact ⟨_, rfl, o3.out, hB.out⟩
end Go.Proofs.Ytlakellmdcdaaaa.Pc

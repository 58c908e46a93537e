/-
  The contract of impl.BestOf.
  Conditions: the piece reads as a piece; texts of 2^20 bytes at most together.
-/
import Derived.Test.YtlakellmdcdaaaaBest
import Derived.Test.YtlakellmdcdaaaaPc14
namespace Go.Proofs.Ytlakellmdcdaaaa.Pc
open Go.RowKit Go.Proofs.Ytlakellmdcdaaaa.Row Go.Proofs.Ytlakellmdcdaaaa.Mem Go.Proofs.Ytlakellmdcdaaaa.Mix Go.Proofs.Ytlakellmdcdaaaa.Recs Go.Proofs.Ytlakellmdcdaaaa.Owns Go.Proofs.Ytlakellmdcdaaaa.Blocks Go.Proofs.Ytlakellmdcdaaaa.Piece Go.Proofs.Ytlakellmdcdaaaa.All Go.Proofs.Ytlakellmdcdaaaa.Ints Go.Proofs.Ytlakellmdcdaaaa.Strs Go.Proofs.Ytlakellmdcdaaaa.Rep
def bestOf (p : P) (x : Int) : Found := if pieceOk p = true then bestTo p x (allN p) else ⟨[], 0, 0, false⟩
theorem bestOf_len (p : P) (x : Int) : (bestOf p x).v.length ≤ p.rules.length := by
  unfold bestOf
  split
  · exact bestTo_len x _
  · simp
theorem zeros_made (w : World) (e : TypeId) (n : Nat) (hm : n ≤ 1048576) : (w.alloc (.cells (madeCells #[.int .i64 0] (n * 1)) e)).ownsRow w.heap.size e 1 (.slice (some ⟨w.heap.size, 0, none⟩) n n) n (ints (List.replicate n 0)) := by
  refine ⟨by simp, .inr ⟨w.heap.size, n, _, rfl, Nat.le_refl _, heap_alloc_new w _, Nat.le_refl _, by simp only [maxLen]; omega, by simp [madeCells], ?_⟩⟩
  rw [List.take_of_length_le (by simp [madeCells])]
  apply List.ext_getElem
  · simp [madeCells]
  · intro i h1 h2
    simp only [madeCells, ints, Array.getElem_toList, Array.getElem_map, List.getElem_map, List.getElem_replicate]
    simp [Nat.mod_one]
/-- what the values' block holds -/
def readInts (w : World) (g : Nat) : List Int := match w.heap[g]? with
  | some (.cells arr _ _) => arr.toList.map fun v => match v with | .int _ z => z | _ => 0
  | _ => []
theorem read_own {w : World} {B g n : Nat} {e : TypeId} {xs : List Int} (h : w.ownsRow B e 1 (.slice (some ⟨g, 0, none⟩) n n) n (ints xs)) : readInts w g = xs := by
  obtain ⟨hl, h2⟩ := h
  rcases h2 with ⟨h0, _⟩ | ⟨g', cap, cur, hv, hb, hg, hnc, hcm, hcs, ht⟩
  · cases h0
  · cases hv
    rw [List.take_of_length_le (by simp; omega)] at ht
    unfold readInts
    rw [hg]
    simp only [ht, ints, List.map_map]
    exact List.map_id' xs
def leftOf (p : P) (g : Nat) (m : Value) (w : World) : Nat := match m with
  | .bool true => allN p - numTo p (readInts w g) p.rules.length
  | _ => 0
theorem left_lt {p : P} (hR : Right p) {i g B B' : Nat} {e e' : TypeId} {w w' : World} (hi : i < allN p) (ho : w.ownsRow B e 1 (.slice (some ⟨g, 0, none⟩) p.rules.length p.rules.length) p.rules.length (ints (seqv p i)))
    (ho' : w'.ownsRow B' e' 1 (.slice (some ⟨g, 0, none⟩) p.rules.length p.rules.length) p.rules.length (ints (seqv p (i + 1)))) : leftOf p g (.bool (decide (i + 1 < allN p))) w' < leftOf p g (.bool (decide (i < allN p))) w := by
  rw [decide_eq_true hi]
  unfold leftOf
  rw [read_own ho, read_own ho', (seqv_facts hR i hi).2]
  by_cases h : i + 1 < allN p
  · rw [decide_eq_true h, (seqv_facts hR (i + 1) h).2]
    simp only
    omega
  · rw [decide_eq_false h]
    simp only
    omega
theorem impl_step {p : P} {r c s t v : Value} {w0 w : World} (h : PRow w0 p r c s t) (hB : Below w0.heap.size w0 w) (hR : Right p) {i : Nat} (hi : i < allN p) (ho : w.ownsRow w0.heap.size 3 1 v p.rules.length (ints (seqv p i))) :
    Calls Try.prog 86 #[pv p.ind r c s t, v] w fun e w' => e = .returned (.bool (decide (i + 1 < allN p))) ∧ w'.ownsRow w0.heap.size 3 1 v p.rules.length (ints (seqv p (i + 1))) ∧ w.grownBy w' v.ownBlock := by
  refine (impl_next h hB (seqv_len p i) (by rw [seqv_len]; exact ho)).mono ?_
  rintro e w' ⟨rfl, h2, h3⟩
  rw [seqv_len] at h2
  exact ⟨by rw [seqv_len, seqv_flag hR hi], h2, h3⟩
theorem spec_step {p : P} {r c s t v : Value} {w0 w : World} (h : PRow w0 p r c s t) (hB : Below w0.heap.size w0 w) (hR : Right p) {i : Nat} (hi : i < allN p) (ho : w.ownsRow w0.heap.size 3 1 v p.rules.length (ints (seqv p i))) :
    Calls Try.prog 84 #[pv p.ind r c s t, v] w fun e w' => e = .returned (.bool (decide (i + 1 < allN p))) ∧ w'.ownsRow w0.heap.size 3 1 v p.rules.length (ints (seqv p (i + 1))) ∧ w.grownBy w' v.ownBlock := by
  refine (spec_next h hB (seqv_len p i) (by rw [seqv_len]; exact ho)).mono ?_
  rintro e w' ⟨rfl, h2, h3⟩
  rw [seqv_len] at h2
  exact ⟨by rw [seqv_len, seqv_flag hR hi], h2, h3⟩
/-- a step of the search -/
theorem step_no {p : P} {x : Int} {i : Nat} (h : takes p x (bestTo p x i) i = false) : bestTo p x (i + 1) = bestTo p x i := by rw [bestTo, if_neg (by rw [h]; decide)]
theorem step_yes {p : P} {x : Int} {i : Nat} (h : takes p x (bestTo p x i) i = true) : bestTo p x (i + 1) = ⟨seqv p i, overC p x (seqv p i), sumOf p (seqv p i), true⟩ := by rw [bestTo, if_pos h]
set_option maxRecDepth 100000 in
set_option maxHeartbeats 12800000 in
theorem impl_BestOf {p : P} {r c s t : Value} {w : World} (h : PRow w p r c s t) (ht : tot (Chunk.texts p.chunks) ≤ 1048576) (x : Int) :
    Calls Try.prog 46 #[pv p.ind r c s t, .int .i64 x] w fun e w' => ∃ v', e = .returned (.tuple #[v', cost (bestOf p x).o (bestOf p x).s, .bool (bestOf p x).f]) ∧ w'.ownsRow w.heap.size 3 1 v' (bestOf p x).v.length (ints (bestOf p x).v) ∧ Below w.heap.size w w' := by
  obtain ⟨⟨A1, m1, rfl⟩, ⟨A2, m2, rfl⟩, ⟨A3, m3, rfl⟩, ⟨A4, m4, rfl⟩⟩ := h.lits
  have hst := texts_le ht
  have hB0 := below2 w (.cells #[.int .i64 p.ind, .slice A1 p.rules.length m1, .slice A2 p.chunks.length m2, .slice A3 p.spans.length m3, .slice A4 p.ties.length m4] 35) (.cells #[.int .i64 0, .int .i64 0] 57)
  have hT := two w (.cells #[.int .i64 p.ind, .slice A1 p.rules.length m1, .slice A2 p.chunks.length m2, .slice A3 p.spans.length m3, .slice A4 p.ties.length m4] 35) (.cells #[.int .i64 0, .int .i64 0] 57)
  obtain ⟨W, hW⟩ : ∃ W, (w.alloc (.cells #[.int .i64 p.ind, .slice A1 p.rules.length m1, .slice A2 p.chunks.length m2, .slice A3 p.spans.length m3, .slice A4 p.ties.length m4] 35)).alloc (.cells #[.int .i64 0, .int .i64 0] 57) = W := ⟨_, rfl⟩
  rw [hW] at hB0 hT
  replace hW := Lib.hid hW
  have k := Lib.hid hT.1
  have k1 := Lib.hid hT.2.1
  clear hT
  replace h := Lib.hid (h.below hB0)
  replace ht := Lib.hid ht
  have hB := Lib.hid hB0
  clear hB0
  obtain ⟨bp, hbp⟩ : ∃ b, pieceOk p = b := ⟨_, rfl⟩
  have hp := impl_PieceOk h.out hst
  rw [hbp] at hp
  replace hp := Lib.hid hp
  replace hbp := Lib.hid hbp
  clear hst
  go_enter Try.func46, Try.ntmps46
  go_wp2_with fail
  rw [hW.out]
  refine hp.out.mono ?_
  rintro e w1 ⟨rfl, b1⟩
  replace hB := Lib.hid (hB.out.trans (b1.mono hB.out.size))
  replace k := Lib.hid (blk_below k.out b1)
  replace k1 := Lib.hid (blk_below k1.out b1)
  replace h := Lib.hid (h.out.below b1)
  clear b1 hp hW
  have l1 := blk_lt k.out
  have l2 := blk_lt k1.out
  obtain ⟨x0, x1, x2, x3, x4⟩ := blk5 k.out
  cases bp
  · have hno := Lib.hid (show bestOf p x = ⟨[], 0, 0, false⟩ by unfold bestOf; rw [hbp.out]; simp)
    obtain ⟨v0, v1⟩ := blk2 k1.out
    have g0 := frz k1.out 0
    have g1 := frz k1.out 1
    clear x0 x1 x2 x3 x4
    go_wp2
    refine bodyPost_ret (v := .tuple #[.slice none 0 0, cost 0 0, .bool false]) (by simp [results, Try.results46, go_sem, v0, v1]) rfl ⟨_, by rw [hno.out], ?_, ?_⟩
    · rw [hno.out]; exact own_nil _ _ _ _
    · repeat (first | (with_reducible exact hB.out) | refine Below.setCell ?_ (by simp <;> omega) _)
  · have hR := right_of hbp.out
    have hyes := Lib.hid (show bestOf p x = bestTo p x (allN p) by unfold bestOf; rw [hbp.out]; simp)
    have hpos := allN_pos hR
    have hrn : p.rules.length ≤ 8 := hR.nrules
    have hrr := h.out.rules
    obtain ⟨_, _, _, -, nr, ncr, cmr, -⟩ := id hrr
    clear hrr
    have hmk : ∀ W, (Instr.makeSlice 39 (.int .i64 (p.rules.length : Int)) (.int .i64 (p.rules.length : Int))).run Try.prog W = .ok (.slice (some ⟨W.heap.size, 0, none⟩) p.rules.length p.rules.length) (W.alloc (.cells (madeCells #[.int .i64 0] p.rules.length) 3)) := fun W => by
      have := make_run EI p.rules.length p.rules.length (by omega) (by omega) (by simp only [maxLen]; omega) W
      rwa [Nat.mul_one] at this
    obtain ⟨w2, hw2⟩ : ∃ W, w1.alloc (.cells #[.int .i64 0, .int .i64 0] 57) = W := ⟨_, rfl⟩
    have kc := heap_alloc_new w1 (.cells #[.int .i64 0, .int .i64 0] 57)
    have a2 := (Below.refl w1.heap.size w1).alloc (Nat.le_refl _) (.cells #[.int .i64 0, .int .i64 0] 57)
    rw [hw2] at kc a2
    have z2 : w2.heap.size = w1.heap.size + 1 := by rw [← hw2]; simp
    have ov := zeros_made w2 3 p.rules.length (by omega)
    rw [Nat.mul_one] at ov
    have a3 := (Below.refl w2.heap.size w2).alloc (Nat.le_refl _) (.cells (madeCells #[.int .i64 0] p.rules.length) 3)
    obtain ⟨w3, hw3⟩ : ∃ W, w2.alloc (.cells (madeCells #[.int .i64 0] p.rules.length) 3) = W := ⟨_, rfl⟩
    rw [hw3] at ov a3
    have kc3 := blk_below kc a3
    have b3 := a2.trans (a3.mono a2.size)
    rw [z2] at ov
    have ov3 := own_mono ov (show w1.heap.size ≤ w1.heap.size + 1 by omega)
    replace hw2 := Lib.hid hw2
    replace hw3 := Lib.hid hw3
    replace kc3 := Lib.hid kc3
    replace hR := Lib.hid hR
    replace ov3 := Lib.hid ov3
    replace b3 := Lib.hid b3
    clear kc a2 a3 ov z2
    go_wp2
    rw [hw2.out, hw3.out]
    clear x0 x1 x2 x3 x4 hmk
    go_loopw [7, 9, 11] (fun b f m wr => ∃ i : Nat, i ≤ allN p ∧ m = .bool (decide (i < allN p)) ∧ f = .bool (bestTo p x i).f ∧ Hid (wr.ownsRow w1.heap.size 3 1 (.slice (some ⟨w1.heap.size + 1, 0, none⟩) p.rules.length p.rules.length) p.rules.length (ints (seqv p i))) ∧ Hid (wr.ownsRow w1.heap.size 3 1 b (bestTo p x i).v.length (ints (bestTo p x i).v)) ∧ Hid (∀ q, b.ownBlock = some q → q ≠ w1.heap.size ∧ q ≠ w1.heap.size + 1) ∧ Hid (wr.heap[w1.heap.size]? = some (.cells #[.int .i64 (bestTo p x i).o, .int .i64 (bestTo p x i).s] 57 (0, 0))) ∧ Hid (Below w1.heap.size w1 wr)) (fun _ _ m wr => leftOf p (w1.heap.size + 1) m wr)
    case atStart => exact ⟨0, by omega, by rw [decide_eq_true hpos], rfl, ov3, Lib.hid (own_nil _ _ _ _), Lib.hid (fun q hq => by cases hq), kc3, b3⟩
    case round =>
      clear hw2 hw3 ov3 b3 kc3
      obtain ⟨i, hi, rfl, rfl, oV, oB, nB, h8, hbw⟩ := hrel
      by_cases hi : i < allN p
      · have dm : decide (i < allN p) = true := decide_eq_true hi
        obtain ⟨B, hBd⟩ : ∃ B, bestTo p x i = B := ⟨_, rfl⟩
        obtain ⟨bv, bo, bs, bf⟩ := B
        rw [hBd] at oB h8 ⊢
        dsimp only at oB h8 ⊢
        have oV0 := oV
        replace hBd := Lib.hid hBd
        have kr := Lib.hid (blk_below k.out hbw.out)
        have lk := blk_lt kr.out
        obtain ⟨x0, x1, x2, x3, x4⟩ := blk5 kr.out
        have hties := impl_tiesOk (h.out.below hbw.out) (show Row _ (.slice (some ⟨w1.heap.size + 1, 0, none⟩) p.rules.length p.rules.length) 1 (seqv p i).length (ints (seqv p i)) by rw [seqv_len]; exact row_of_owns oV.out) (seqv_len p i)
        obtain ⟨bt, hbt⟩ : ∃ b, tiesOk p (seqv p i) = b := ⟨_, rfl⟩
        rw [hbt] at hties
        replace hties := Lib.hid hties
        replace hbt := Lib.hid hbt
        go_wp2_with fail
        refine hties.out.mono ?_
        rintro e w4 ⟨rfl, b4⟩
        clear x0 x1 x2 x3 x4 lk kr
        replace oV := Lib.hid (own_below oV.out b4)
        replace oB := Lib.hid (own_below oB.out b4)
        replace h8 := Lib.hid (blk_below h8.out b4)
        replace hbw := Lib.hid (hbw.out.trans (b4.mono hbw.out.size))
        clear b4 hties
        cases bt
        · have hs := Lib.hid ((step_no (x := x) (show takes p x (bestTo p x i) i = false by unfold takes; rw [hbt.out]; rfl)).trans hBd.out)
          have kr := Lib.hid (blk_below k.out hbw.out)
          have lk := blk_lt kr.out
          obtain ⟨x0, x1, x2, x3, x4⟩ := blk5 kr.out
          go_wp2_with fail
          refine (impl_step h.out hbw.out hR.out hi oV.out).mono ?_
          rintro e w9 ⟨rfl, oV9, g9⟩
          clear x0 x1 x2 x3 x4 lk kr
          have hm9 := Lib.hid (left_lt hR.out hi oV0.out oV9)
          replace oV9 := Lib.hid oV9
          have s9 := hbw.out.size
          have hb9 := Lib.hid (hbw.out.grown g9 s9 (fun q hq => by have hq : some (w1.heap.size + 1) = some q := hq; injection hq with hq; omega))
          have oB9 := Lib.hid (owns_kept oB.out g9 (fun q hq e => by have e : some (w1.heap.size + 1) = some q := e; injection e with e; exact (nB.out q hq).2 e.symm))
          have h89 := Lib.hid ((g9.block _ (blk_lt h8.out) (fun e => by have e : some (w1.heap.size + 1) = some (w1.heap.size) := e.symm; injection e with e; omega)).trans h8.out)
          clear g9 oV oB h8 hbw
          go_wp2
          go_roundw
          case rel => exact ⟨i + 1, by omega, rfl, by rw [hs.out], oV9, Lib.hid (by rw [hs.out]; exact oB9.out), nB, Lib.hid (by rw [hs.out]; exact h89.out), hb9⟩
          case measure => exact hm9.out
        · have hcost := Lib.hid (impl_cost (h.out.below hbw.out) (show Row _ (.slice (some ⟨w1.heap.size + 1, 0, none⟩) p.rules.length p.rules.length) 1 (seqv p i).length (ints (seqv p i)) by rw [seqv_len]; exact row_of_owns oV.out) hR.out (seqv_ok hR.out hi) ht.out x)
          obtain ⟨o1, ho1⟩ : ∃ o, overC p x (seqv p i) = o := ⟨_, rfl⟩
          obtain ⟨s1, hs1⟩ : ∃ o, sumOf p (seqv p i) = o := ⟨_, rfl⟩
          have hcv : costVal p (seqv p i) x = cost o1 s1 := by rw [← ho1, ← hs1]; rfl
          rw [hcv] at hcost
          replace ho1 := Lib.hid ho1
          replace hs1 := Lib.hid hs1
          replace hcost := Lib.hid hcost.out
          clear hcv
          have kr := Lib.hid (blk_below k.out hbw.out)
          have lk := blk_lt kr.out
          obtain ⟨x0, x1, x2, x3, x4⟩ := blk5 kr.out
          go_wp2_with fail
          refine hcost.out.mono ?_
          rintro e w5 ⟨rfl, b5⟩
          clear x0 x1 x2 x3 x4 lk kr
          replace oV := Lib.hid (own_below oV.out b5)
          replace oB := Lib.hid (own_below oB.out b5)
          replace h8 := Lib.hid (blk_below h8.out b5)
          replace hbw := Lib.hid (hbw.out.trans (b5.mono hbw.out.size))
          clear b5 hcost
          have a6 := (Below.refl w5.heap.size w5).alloc (Nat.le_refl _) (.cells #[.int .i64 o1, .int .i64 s1] 57)
          have kd := heap_alloc_new w5 (.cells #[.int .i64 o1, .int .i64 s1] 57)
          obtain ⟨w6, hw6⟩ : ∃ W, w5.alloc (.cells #[.int .i64 o1, .int .i64 s1] 57) = W := ⟨_, rfl⟩
          rw [hw6] at a6 kd
          replace hw6 := Lib.hid hw6
          replace kd := Lib.hid kd
          have y8 := Lib.hid h8.out
          have l8 := blk_lt h8.out
          obtain ⟨y0, y1⟩ := blk2 y8.out
          replace oV := Lib.hid (own_below oV.out a6)
          replace oB := Lib.hid (own_below oB.out a6)
          replace h8 := Lib.hid (blk_below h8.out a6)
          replace hbw := Lib.hid (hbw.out.trans (a6.mono hbw.out.size))
          clear a6
          have s6 := (oV.out.lt (w1.heap.size + 1) rfl).2
          cases bf
          · skip
            go_wp2
            rw [hw6.out]
            clear y0 y1 l8 y8
            have hs := Lib.hid (show bestTo p x (i + 1) = ⟨seqv p i, o1, s1, true⟩ by rw [step_yes (show takes p x (bestTo p x i) i = true by unfold takes; rw [hbt.out, hBd.out]; rfl), ho1.out, hs1.out])
            obtain ⟨d0, d1⟩ := blk2 kd.out
            have ld := blk_lt kd.out
            refine wp_region_below [(0, true), (2, true), (1, false), (3, true), (4, false), (5, false)] (by kernel_rfl) (by kernel_rfl) (fun d _ _ _ _ h => by cases d <;> exact h) ?_
            repeat
             (refine mix_still rfl (by rfl) ?_
              apply Exists.intro
              refine ⟨fun w' hS => ?_, ?_⟩
              · (have hS' := cells_of hS; clear hS; go_simp; (try go_bits); first | with_reducible rfl | (refine (if_pos ?_).trans ?_; omega; with_reducible rfl))
              (go_simp; (try go_bits)))
            refine mix_loud rfl (fun K hK => ?_)
            (go_simp; (try go_bits))
            refine (clone_any (show Row _ (.slice (some ⟨w1.heap.size + 1, 0, none⟩) p.rules.length p.rules.length) 1 (seqv p i).length (ints (seqv p i)) by rw [seqv_len]; exact row_of_owns oV.out).drew (by rw [seqv_len]; omega)).mono ?_
            rintro _ wA ⟨vn, rfl, oA, bA⟩
            have bAx := bA
            replace bA := of_drew bA
            refine hK _ _ (fun _ => bA) ?_
            clear hK K
            (go_simp; (try go_bits))
            clear d0 d1 ld bAx
            replace oV := Lib.hid (own_below oV.out bA)
            replace oB := Lib.hid (own_below oB.out bA)
            replace h8 := Lib.hid (blk_below h8.out bA)
            replace hbw := Lib.hid (hbw.out.trans (bA.mono hbw.out.size))
            have nA : Hid (∀ q, vn.ownBlock = some q → q ≠ w1.heap.size ∧ q ≠ w1.heap.size + 1) := Lib.hid (fun q hq => by
              have h1 := (oA.lt q hq).1
              have h2 := s6
              rw [show (w6.drew).heap.size = w6.heap.size from rfl] at h1
              omega)
            have oA2 := Lib.hid (own_mono oA (show w1.heap.size ≤ w6.drew.heap.size by show w1.heap.size ≤ w6.heap.size; omega))
            clear oA bA oB nB
            obtain ⟨y0, y1⟩ := blk2 h8.out
            have l8 := blk_lt h8.out
            have g0 := frz h8.out 0
            have g1 := frz h8.out 1
            repeat
             (refine mix_still rfl (by rfl) ?_
              apply Exists.intro
              refine ⟨fun w' hS => ?_, ?_⟩
              · (have hS' := cells_of hS; clear hS; go_simp; (try go_bits); first | with_reducible rfl | (refine (if_pos ?_).trans ?_; omega; with_reducible rfl))
              (go_simp; (try go_bits)))
            refine mix_loud rfl (fun K hK => ?_)
            (go_simp; (try go_bits))
            refine hK _ _ (no_need (by kernel_rfl)) ?_
            clear hK K
            try (go_simp; (try go_bits))
            refine mix_loud rfl (fun K hK => ?_)
            (go_simp; (try go_bits))
            refine hK _ _ (no_need (by kernel_rfl)) ?_
            clear hK K
            try (go_simp; (try go_bits))
            refine mix_nil ?_
            clear y0 y1 l8 g0 g1
            have h8b := Lib.hid (heap_set (heap_set h8.out 0 (.int .i64 o1)) 1 (.int .i64 s1))
            have hne8 : ∀ q, vn.ownBlock = some q → (some (w1.heap.size) : Option Nat) ≠ some q := fun q hq e => by injection e with e; exact (nA.out q hq).1 e.symm
            have gS : wA.grownBy ((wA.setCell ⟨w1.heap.size, 0, none⟩ (.int .i64 o1)).setCell ⟨w1.heap.size, 1, none⟩ (.int .i64 s1)) (some (w1.heap.size)) := grown_set (grown_set (World.grownBy.refl wA _) 0 _) 1 _
            have sS := hbw.out.size
            have oBn := Lib.hid (owns_kept oA2.out gS hne8)
            have oVn := Lib.hid (owns_kept oV.out gS (fun q hq e => by have hq : some (w1.heap.size + 1) = some q := hq; injection hq with hq; injection e with e; omega))
            have hbn := Lib.hid (hbw.out.grown gS sS (fun q hq => by injection hq with hq; omega))
            obtain ⟨wS, hwS⟩ : ∃ W, (wA.setCell ⟨w1.heap.size, 0, none⟩ (.int .i64 o1)).setCell ⟨w1.heap.size, 1, none⟩ (.int .i64 s1) = W := ⟨_, rfl⟩
            rw [hwS] at h8b oBn oVn hbn gS ⊢
            clear gS hne8 oV h8 hbw oA2
            have oV := oVn
            have oB := oBn
            have h8 := h8b
            have hbw := hbn
            clear oVn oBn h8b hbn
            have nB := nA
            clear nA
            have kr := Lib.hid (blk_below k.out hbw.out)
            have lk := blk_lt kr.out
            obtain ⟨x0, x1, x2, x3, x4⟩ := blk5 kr.out
            go_wp2_with fail
            refine (impl_step h.out hbw.out hR.out hi oV.out).mono ?_
            rintro e w9 ⟨rfl, oV9, g9⟩
            clear x0 x1 x2 x3 x4 lk kr
            have hm9 := Lib.hid (left_lt hR.out hi oV0.out oV9)
            replace oV9 := Lib.hid oV9
            have s9 := hbw.out.size
            have hb9 := Lib.hid (hbw.out.grown g9 s9 (fun q hq => by have hq : some (w1.heap.size + 1) = some q := hq; injection hq with hq; omega))
            have oB9 := Lib.hid (owns_kept oB.out g9 (fun q hq e => by have e : some (w1.heap.size + 1) = some q := e; injection e with e; exact (nB.out q hq).2 e.symm))
            have h89 := Lib.hid ((g9.block _ (blk_lt h8.out) (fun e => by have e : some (w1.heap.size + 1) = some (w1.heap.size) := e.symm; injection e with e; omega)).trans h8.out)
            clear g9 oV oB h8 hbw
            go_wp2
            go_roundw
            case rel => exact ⟨i + 1, by omega, rfl, by rw [hs.out], oV9, Lib.hid (by rw [hs.out]; exact oB9.out), nB, Lib.hid (by rw [hs.out]; exact h89.out), hb9⟩
            case measure => exact hm9.out
          · have hless := Lib.hid (fun W => Cost.impl_less o1 s1 bo bs W)
            obtain ⟨bl, hbl⟩ : ∃ b, Cost.less o1 s1 bo bs = b := ⟨_, rfl⟩
            rw [hbl] at hless
            replace hbl := Lib.hid hbl
            go_wp2_with fail
            rw [hw6.out]
            refine (hless.out _).mono ?_
            rintro e w7 ⟨rfl, b7⟩
            clear y0 y1 l8 y8 hless hw6
            replace kd := Lib.hid (blk_below kd.out b7)
            replace oV := Lib.hid (own_below oV.out b7)
            replace oB := Lib.hid (own_below oB.out b7)
            replace h8 := Lib.hid (blk_below h8.out b7)
            replace hbw := Lib.hid (hbw.out.trans (b7.mono hbw.out.size))
            replace s6 := (oV.out.lt (w1.heap.size + 1) rfl).2
            clear b7
            cases bl
            · have hs := Lib.hid ((step_no (x := x) (show takes p x (bestTo p x i) i = false by unfold takes; rw [hbt.out, hBd.out, ho1.out, hs1.out]; simp [hbl.out])).trans hBd.out)
              clear kd
              have kr := Lib.hid (blk_below k.out hbw.out)
              have lk := blk_lt kr.out
              obtain ⟨x0, x1, x2, x3, x4⟩ := blk5 kr.out
              go_wp2_with fail
              refine (impl_step h.out hbw.out hR.out hi oV.out).mono ?_
              rintro e w9 ⟨rfl, oV9, g9⟩
              clear x0 x1 x2 x3 x4 lk kr
              have hm9 := Lib.hid (left_lt hR.out hi oV0.out oV9)
              replace oV9 := Lib.hid oV9
              have s9 := hbw.out.size
              have hb9 := Lib.hid (hbw.out.grown g9 s9 (fun q hq => by have hq : some (w1.heap.size + 1) = some q := hq; injection hq with hq; omega))
              have oB9 := Lib.hid (owns_kept oB.out g9 (fun q hq e => by have e : some (w1.heap.size + 1) = some q := e; injection e with e; exact (nB.out q hq).2 e.symm))
              have h89 := Lib.hid ((g9.block _ (blk_lt h8.out) (fun e => by have e : some (w1.heap.size + 1) = some (w1.heap.size) := e.symm; injection e with e; omega)).trans h8.out)
              clear g9 oV oB h8 hbw
              go_wp2
              go_roundw
              case rel => exact ⟨i + 1, by omega, rfl, by rw [hs.out], oV9, Lib.hid (by rw [hs.out]; exact oB9.out), nB, Lib.hid (by rw [hs.out]; exact h89.out), hb9⟩
              case measure => exact hm9.out
            · skip
              go_wp2
              have hs := Lib.hid (show bestTo p x (i + 1) = ⟨seqv p i, o1, s1, true⟩ by rw [step_yes (show takes p x (bestTo p x i) i = true by unfold takes; rw [hbt.out, hBd.out, ho1.out, hs1.out]; simp [hbl.out]), ho1.out, hs1.out])
              obtain ⟨d0, d1⟩ := blk2 kd.out
              have ld := blk_lt kd.out
              refine wp_region_below [(0, true), (2, true), (1, false), (3, true), (4, false), (5, false)] (by kernel_rfl) (by kernel_rfl) (fun d _ _ _ _ h => by cases d <;> exact h) ?_
              repeat
               (refine mix_still rfl (by rfl) ?_
                apply Exists.intro
                refine ⟨fun w' hS => ?_, ?_⟩
                · (have hS' := cells_of hS; clear hS; go_simp; (try go_bits); first | with_reducible rfl | (refine (if_pos ?_).trans ?_; omega; with_reducible rfl))
                (go_simp; (try go_bits)))
              refine mix_loud rfl (fun K hK => ?_)
              (go_simp; (try go_bits))
              refine (clone_any (show Row _ (.slice (some ⟨w1.heap.size + 1, 0, none⟩) p.rules.length p.rules.length) 1 (seqv p i).length (ints (seqv p i)) by rw [seqv_len]; exact row_of_owns oV.out).drew (by rw [seqv_len]; omega)).mono ?_
              rintro _ wA ⟨vn, rfl, oA, bA⟩
              have bAx := bA
              replace bA := of_drew bA
              refine hK _ _ (fun _ => bA) ?_
              clear hK K
              (go_simp; (try go_bits))
              clear d0 d1 ld bAx
              replace oV := Lib.hid (own_below oV.out bA)
              replace oB := Lib.hid (own_below oB.out bA)
              replace h8 := Lib.hid (blk_below h8.out bA)
              replace hbw := Lib.hid (hbw.out.trans (bA.mono hbw.out.size))
              have nA : Hid (∀ q, vn.ownBlock = some q → q ≠ w1.heap.size ∧ q ≠ w1.heap.size + 1) := Lib.hid (fun q hq => by
                have h1 := (oA.lt q hq).1
                have h2 := s6
                rw [show (w7.drew).heap.size = w7.heap.size from rfl] at h1
                omega)
              have oA2 := Lib.hid (own_mono oA (show w1.heap.size ≤ w7.drew.heap.size by show w1.heap.size ≤ w7.heap.size; omega))
              clear oA bA oB nB
              obtain ⟨y0, y1⟩ := blk2 h8.out
              have l8 := blk_lt h8.out
              have g0 := frz h8.out 0
              have g1 := frz h8.out 1
              repeat
               (refine mix_still rfl (by rfl) ?_
                apply Exists.intro
                refine ⟨fun w' hS => ?_, ?_⟩
                · (have hS' := cells_of hS; clear hS; go_simp; (try go_bits); first | with_reducible rfl | (refine (if_pos ?_).trans ?_; omega; with_reducible rfl))
                (go_simp; (try go_bits)))
              refine mix_loud rfl (fun K hK => ?_)
              (go_simp; (try go_bits))
              refine hK _ _ (no_need (by kernel_rfl)) ?_
              clear hK K
              try (go_simp; (try go_bits))
              refine mix_loud rfl (fun K hK => ?_)
              (go_simp; (try go_bits))
              refine hK _ _ (no_need (by kernel_rfl)) ?_
              clear hK K
              try (go_simp; (try go_bits))
              refine mix_nil ?_
              clear y0 y1 l8 g0 g1
              have h8b := Lib.hid (heap_set (heap_set h8.out 0 (.int .i64 o1)) 1 (.int .i64 s1))
              have hne8 : ∀ q, vn.ownBlock = some q → (some (w1.heap.size) : Option Nat) ≠ some q := fun q hq e => by injection e with e; exact (nA.out q hq).1 e.symm
              have gS : wA.grownBy ((wA.setCell ⟨w1.heap.size, 0, none⟩ (.int .i64 o1)).setCell ⟨w1.heap.size, 1, none⟩ (.int .i64 s1)) (some (w1.heap.size)) := grown_set (grown_set (World.grownBy.refl wA _) 0 _) 1 _
              have sS := hbw.out.size
              have oBn := Lib.hid (owns_kept oA2.out gS hne8)
              have oVn := Lib.hid (owns_kept oV.out gS (fun q hq e => by have hq : some (w1.heap.size + 1) = some q := hq; injection hq with hq; injection e with e; omega))
              have hbn := Lib.hid (hbw.out.grown gS sS (fun q hq => by injection hq with hq; omega))
              obtain ⟨wS, hwS⟩ : ∃ W, (wA.setCell ⟨w1.heap.size, 0, none⟩ (.int .i64 o1)).setCell ⟨w1.heap.size, 1, none⟩ (.int .i64 s1) = W := ⟨_, rfl⟩
              rw [hwS] at h8b oBn oVn hbn gS ⊢
              clear gS hne8 oV h8 hbw oA2
              have oV := oVn
              have oB := oBn
              have h8 := h8b
              have hbw := hbn
              clear oVn oBn h8b hbn
              have nB := nA
              clear nA
              have kr := Lib.hid (blk_below k.out hbw.out)
              have lk := blk_lt kr.out
              obtain ⟨x0, x1, x2, x3, x4⟩ := blk5 kr.out
              go_wp2_with fail
              refine (impl_step h.out hbw.out hR.out hi oV.out).mono ?_
              rintro e w9 ⟨rfl, oV9, g9⟩
              clear x0 x1 x2 x3 x4 lk kr
              have hm9 := Lib.hid (left_lt hR.out hi oV0.out oV9)
              replace oV9 := Lib.hid oV9
              have s9 := hbw.out.size
              have hb9 := Lib.hid (hbw.out.grown g9 s9 (fun q hq => by have hq : some (w1.heap.size + 1) = some q := hq; injection hq with hq; omega))
              have oB9 := Lib.hid (owns_kept oB.out g9 (fun q hq e => by have e : some (w1.heap.size + 1) = some q := e; injection e with e; exact (nB.out q hq).2 e.symm))
              have h89 := Lib.hid ((g9.block _ (blk_lt h8.out) (fun e => by have e : some (w1.heap.size + 1) = some (w1.heap.size) := e.symm; injection e with e; omega)).trans h8.out)
              clear g9 oV oB h8 hbw
              go_wp2
              go_roundw
              case rel => exact ⟨i + 1, by omega, rfl, by rw [hs.out], oV9, Lib.hid (by rw [hs.out]; exact oB9.out), nB, Lib.hid (by rw [hs.out]; exact h89.out), hb9⟩
              case measure => exact hm9.out
      · have dm : decide (i < allN p) = false := decide_eq_false hi
        have hin : i = allN p := by omega
        subst hin
        have kr := Lib.hid (blk_below k1.out hbw.out)
        obtain ⟨v0, v1⟩ := blk2 kr.out
        have g0 := frz kr.out 0
        have g1 := frz kr.out 1
        obtain ⟨y0, y1⟩ := blk2 h8.out
        have l8 := blk_lt h8.out
        have l5 := blk_lt kr.out
        go_wp2
        refine wp_region_mix (fun w' => w'.heap[w1.heap.size]? = some (.cells #[.int .i64 (bestTo p x (allN p)).o, .int .i64 (bestTo p x (allN p)).s] 57 (0, 0))) [(0, true), (1, true), (2, true), (3, true), (4, false), (5, false)] (by kernel_rfl) (by kernel_rfl) (fun d _ _ _ _ h => by cases d <;> exact h) h8.out ?_
        repeat
         (refine mix_still rfl (by rfl) ?_
          apply Exists.intro
          refine ⟨fun w' hS => ?_, ?_⟩
          · (obtain ⟨z0, z1⟩ := blk2 hS; clear hS; go_simp; (try go_bits); with_reducible rfl)
          (go_simp; (try go_bits)))
        refine mix_loud rfl (fun K hK => ?_)
        (go_simp; (try go_bits))
        refine hK _ _ (fun _ => ?_) ?_
        · exact (Below.heap_setCell _ ⟨_, 1, none⟩ _ _ (by simp; omega)).trans ((Below.heap_setCell wr ⟨_, 0, none⟩ _ _ (by simp; omega)).trans h8.out)
        clear hK K
        try (go_simp; (try go_bits))
        refine mix_loud rfl (fun K hK => ?_)
        (go_simp; (try go_bits))
        refine hK _ _ (no_need (by kernel_rfl)) ?_
        clear hK K
        try (go_simp; (try go_bits))
        refine mix_nil ?_
        go_wp2
        have hBw := hB.out.trans (hbw.out.mono hB.out.size)
        refine bodyPost_ret (v := .tuple #[u7, cost (bestTo p x (allN p)).o (bestTo p x (allN p)).s, .bool (bestTo p x (allN p)).f]) (by simp [results, Try.results46, go_sem, v0, v1]) rfl ⟨_, by rw [hyes.out], ?_, ?_⟩
        · rw [hyes.out]
          have hl1 : w1.heap.size ≤ w1.heap.size := Nat.le_refl _
          have gS : wr.grownBy ((wr.setCell ⟨w.heap.size + 1, 0, none⟩ (.int .i64 (bestTo p x (allN p)).o)).setCell ⟨w.heap.size + 1, 1, none⟩ (.int .i64 (bestTo p x (allN p)).s)) (some (w.heap.size + 1)) := grown_set (grown_set (World.grownBy.refl wr _) 0 _) 1 _
          have hob := Lib.hid (fun q hq => (oB.out.lt q hq).1)
          exact own_mono (owns_kept oB.out (grown_drew gS) (fun q hq e => by have := hob.out q hq; injection e with e; omega)) hB.out.size
        · repeat (first | (with_reducible exact hBw) | refine Below.drew ?_ | refine Below.setCell ?_ (by simp <;> omega) _)
end Go.Proofs.Ytlakellmdcdaaaa.Pc
/-
  The contract of spec.BestOf.
  Conditions: the piece reads as a piece; texts of 2^20 bytes at most together.
-/
namespace Go.Proofs.Ytlakellmdcdaaaa.Pc
open Go.RowKit Go.Proofs.Ytlakellmdcdaaaa.Row Go.Proofs.Ytlakellmdcdaaaa.Mem Go.Proofs.Ytlakellmdcdaaaa.Mix Go.Proofs.Ytlakellmdcdaaaa.Recs Go.Proofs.Ytlakellmdcdaaaa.Owns Go.Proofs.Ytlakellmdcdaaaa.Blocks Go.Proofs.Ytlakellmdcdaaaa.Piece Go.Proofs.Ytlakellmdcdaaaa.All Go.Proofs.Ytlakellmdcdaaaa.Ints Go.Proofs.Ytlakellmdcdaaaa.Strs Go.Proofs.Ytlakellmdcdaaaa.Rep
set_option maxRecDepth 100000 in
set_option maxHeartbeats 12800000 in
theorem spec_BestOf {p : P} {r c s t : Value} {w : World} (h : PRow w p r c s t) (ht : tot (Chunk.texts p.chunks) ≤ 1048576) (x : Int) :
    Calls Try.prog 45 #[pv p.ind r c s t, .int .i64 x] w fun e w' => ∃ v', e = .returned (.tuple #[v', cost (bestOf p x).o (bestOf p x).s, .bool (bestOf p x).f]) ∧ w'.ownsRow w.heap.size 3 1 v' (bestOf p x).v.length (ints (bestOf p x).v) ∧ Below w.heap.size w w' := by
  obtain ⟨⟨A1, m1, rfl⟩, ⟨A2, m2, rfl⟩, ⟨A3, m3, rfl⟩, ⟨A4, m4, rfl⟩⟩ := h.lits
  have hst := texts_le ht
  have hB0 := below2 w (.cells #[.int .i64 p.ind, .slice A1 p.rules.length m1, .slice A2 p.chunks.length m2, .slice A3 p.spans.length m3, .slice A4 p.ties.length m4] 35) (.cells #[.int .i64 0, .int .i64 0] 57)
  have hT := two w (.cells #[.int .i64 p.ind, .slice A1 p.rules.length m1, .slice A2 p.chunks.length m2, .slice A3 p.spans.length m3, .slice A4 p.ties.length m4] 35) (.cells #[.int .i64 0, .int .i64 0] 57)
  obtain ⟨W, hW⟩ : ∃ W, (w.alloc (.cells #[.int .i64 p.ind, .slice A1 p.rules.length m1, .slice A2 p.chunks.length m2, .slice A3 p.spans.length m3, .slice A4 p.ties.length m4] 35)).alloc (.cells #[.int .i64 0, .int .i64 0] 57) = W := ⟨_, rfl⟩
  rw [hW] at hB0 hT
  replace hW := Lib.hid hW
  have k := Lib.hid hT.1
  have k1 := Lib.hid hT.2.1
  clear hT
  replace h := Lib.hid (h.below hB0)
  replace ht := Lib.hid ht
  have hB := Lib.hid hB0
  clear hB0
  obtain ⟨bp, hbp⟩ : ∃ b, pieceOk p = b := ⟨_, rfl⟩
  have hp := spec_PieceOk h.out hst
  rw [hbp] at hp
  replace hp := Lib.hid hp
  replace hbp := Lib.hid hbp
  clear hst
  go_enter Try.func45, Try.ntmps45
  go_wp2_with fail
  rw [hW.out]
  refine hp.out.mono ?_
  rintro e w1 ⟨rfl, b1⟩
  replace hB := Lib.hid (hB.out.trans (b1.mono hB.out.size))
  replace k := Lib.hid (blk_below k.out b1)
  replace k1 := Lib.hid (blk_below k1.out b1)
  replace h := Lib.hid (h.out.below b1)
  clear b1 hp hW
  have l1 := blk_lt k.out
  have l2 := blk_lt k1.out
  obtain ⟨x0, x1, x2, x3, x4⟩ := blk5 k.out
  cases bp
  · have hno := Lib.hid (show bestOf p x = ⟨[], 0, 0, false⟩ by unfold bestOf; rw [hbp.out]; simp)
    obtain ⟨v0, v1⟩ := blk2 k1.out
    have g0 := frz k1.out 0
    have g1 := frz k1.out 1
    clear x0 x1 x2 x3 x4
    go_wp2
    have l3 : w.heap.size + 1 ≠ w1.heap.size := by omega
    have sB := hB.out.size
    refine bodyPost_ret (v := .tuple #[.slice (some ⟨w1.heap.size, 0, none⟩) 0 0, cost 0 0, .bool false]) (by simp [results, Try.results45, go_sem, v0, v1, l2, l3]) rfl ⟨_, by rw [hno.out], ?_, ?_⟩
    · rw [hno.out]
      have ho := own_empty ((w1.setCell ⟨w.heap.size + 1, 0, none⟩ (.int .i64 0)).setCell ⟨w.heap.size + 1, 1, none⟩ (.int .i64 0)) 3 1
      have sz : ((w1.setCell ⟨w.heap.size + 1, 0, none⟩ (.int .i64 0)).setCell ⟨w.heap.size + 1, 1, none⟩ (.int .i64 0)).heap.size = w1.heap.size := by simp
      rw [sz] at ho
      exact own_mono ho sB
    · repeat (first | (with_reducible exact hB.out) | refine Below.setCell ?_ (by simp <;> omega) _ | refine Below.alloc ?_ (by simp <;> omega) _)
  · have hR := right_of hbp.out
    have hyes := Lib.hid (show bestOf p x = bestTo p x (allN p) by unfold bestOf; rw [hbp.out]; simp)
    have hpos := allN_pos hR
    have hrn : p.rules.length ≤ 8 := hR.nrules
    have hrr := h.out.rules
    obtain ⟨_, _, _, -, nr, ncr, cmr, -⟩ := id hrr
    clear hrr
    have hmk : ∀ W, (Instr.makeSlice 39 (.int .i64 (p.rules.length : Int)) (.int .i64 (p.rules.length : Int))).run Try.prog W = .ok (.slice (some ⟨W.heap.size, 0, none⟩) p.rules.length p.rules.length) (W.alloc (.cells (madeCells #[.int .i64 0] p.rules.length) 3)) := fun W => by
      have := make_run EI p.rules.length p.rules.length (by omega) (by omega) (by simp only [maxLen]; omega) W
      rwa [Nat.mul_one] at this
    obtain ⟨w2, hw2⟩ : ∃ W, (w1.alloc (.cells #[] 3)).alloc (.cells #[.int .i64 0, .int .i64 0] 57) = W := ⟨_, rfl⟩
    have kc : ((w1.alloc (.cells #[] 3)).alloc (.cells #[.int .i64 0, .int .i64 0] 57)).heap[w1.heap.size + 1]? = some (.cells #[.int .i64 0, .int .i64 0] 57) := (two w1 (.cells #[] 3) (.cells #[.int .i64 0, .int .i64 0] 57)).2.1
    have a2 := below2 w1 (.cells #[] 3) (.cells #[.int .i64 0, .int .i64 0] 57)
    have oe := own_below (own_empty w1 3 1) ((Below.refl (w1.alloc (.cells #[] 3)).heap.size (w1.alloc (.cells #[] 3))).alloc (Nat.le_refl _) (.cells #[.int .i64 0, .int .i64 0] 57))
    rw [hw2] at kc a2 oe
    have z2 : w2.heap.size = w1.heap.size + 1 + 1 := by rw [← hw2]; simp
    have ov := zeros_made w2 3 p.rules.length (by omega)
    rw [Nat.mul_one] at ov
    have a3 := (Below.refl w2.heap.size w2).alloc (Nat.le_refl _) (.cells (madeCells #[.int .i64 0] p.rules.length) 3)
    obtain ⟨w3, hw3⟩ : ∃ W, w2.alloc (.cells (madeCells #[.int .i64 0] p.rules.length) 3) = W := ⟨_, rfl⟩
    rw [hw3] at ov a3
    have kc3 := blk_below kc a3
    have b3 := a2.trans (a3.mono a2.size)
    have oe3 := own_below oe a3
    rw [z2] at ov
    have ov3 := own_mono ov (show w1.heap.size ≤ w1.heap.size + 1 + 1 by omega)
    replace hw2 := Lib.hid hw2
    replace hw3 := Lib.hid hw3
    replace kc3 := Lib.hid kc3
    replace hR := Lib.hid hR
    replace ov3 := Lib.hid ov3
    replace b3 := Lib.hid b3
    clear kc a2 a3 ov z2 oe
    replace oe3 := Lib.hid oe3
    go_wp2
    rw [hw2.out, hw3.out]
    clear x0 x1 x2 x3 x4 hmk
    go_loopw [7, 9, 11] (fun b f m wr => ∃ i : Nat, i ≤ allN p ∧ m = .bool (decide (i < allN p)) ∧ f = .bool (bestTo p x i).f ∧ Hid (wr.ownsRow w1.heap.size 3 1 (.slice (some ⟨w1.heap.size + 1 + 1, 0, none⟩) p.rules.length p.rules.length) p.rules.length (ints (seqv p i))) ∧ Hid (wr.ownsRow w1.heap.size 3 1 b (bestTo p x i).v.length (ints (bestTo p x i).v)) ∧ Hid (∀ q, b.ownBlock = some q → q ≠ w1.heap.size + 1 ∧ q ≠ w1.heap.size + 1 + 1) ∧ Hid (wr.heap[w1.heap.size + 1]? = some (.cells #[.int .i64 (bestTo p x i).o, .int .i64 (bestTo p x i).s] 57 (0, 0))) ∧ Hid (Below w1.heap.size w1 wr)) (fun _ _ m wr => leftOf p (w1.heap.size + 1 + 1) m wr)
    case atStart => exact ⟨0, by omega, by rw [decide_eq_true hpos], rfl, ov3, oe3, Lib.hid (fun q hq => by have hq : some (w1.heap.size) = some q := hq; injection hq with hq; omega), kc3, b3⟩
    case round =>
      clear hw2 hw3 ov3 b3 kc3 oe3
      obtain ⟨i, hi, rfl, rfl, oV, oB, nB, h8, hbw⟩ := hrel
      by_cases hi : i < allN p
      · have dm : decide (i < allN p) = true := decide_eq_true hi
        obtain ⟨B, hBd⟩ : ∃ B, bestTo p x i = B := ⟨_, rfl⟩
        obtain ⟨bv, bo, bs, bf⟩ := B
        rw [hBd] at oB h8 ⊢
        dsimp only at oB h8 ⊢
        have oV0 := oV
        replace hBd := Lib.hid hBd
        have kr := Lib.hid (blk_below k.out hbw.out)
        have lk := blk_lt kr.out
        obtain ⟨x0, x1, x2, x3, x4⟩ := blk5 kr.out
        have hties := spec_TiesHold (h.out.below hbw.out) (show Row _ (.slice (some ⟨w1.heap.size + 1 + 1, 0, none⟩) p.rules.length p.rules.length) 1 (seqv p i).length (ints (seqv p i)) by rw [seqv_len]; exact row_of_owns oV.out)
        rw [show tiesHold p (seqv p i) = tiesOk p (seqv p i) by unfold tiesHold; rw [seqv_ok hR.out hi]; rfl] at hties
        obtain ⟨bt, hbt⟩ : ∃ b, tiesOk p (seqv p i) = b := ⟨_, rfl⟩
        rw [hbt] at hties
        replace hties := Lib.hid hties
        replace hbt := Lib.hid hbt
        go_wp2_with fail
        refine hties.out.mono ?_
        rintro e w4 ⟨rfl, b4⟩
        clear x0 x1 x2 x3 x4 lk kr
        replace oV := Lib.hid (own_below oV.out b4)
        replace oB := Lib.hid (own_below oB.out b4)
        replace h8 := Lib.hid (blk_below h8.out b4)
        replace hbw := Lib.hid (hbw.out.trans (b4.mono hbw.out.size))
        clear b4 hties
        cases bt
        · have hs := Lib.hid ((step_no (x := x) (show takes p x (bestTo p x i) i = false by unfold takes; rw [hbt.out]; rfl)).trans hBd.out)
          have kr := Lib.hid (blk_below k.out hbw.out)
          have lk := blk_lt kr.out
          obtain ⟨x0, x1, x2, x3, x4⟩ := blk5 kr.out
          go_wp2_with fail
          refine (spec_step h.out hbw.out hR.out hi oV.out).mono ?_
          rintro e w9 ⟨rfl, oV9, g9⟩
          clear x0 x1 x2 x3 x4 lk kr
          have hm9 := Lib.hid (left_lt hR.out hi oV0.out oV9)
          replace oV9 := Lib.hid oV9
          have s9 := hbw.out.size
          have hb9 := Lib.hid (hbw.out.grown g9 s9 (fun q hq => by have hq : some (w1.heap.size + 1 + 1) = some q := hq; injection hq with hq; omega))
          have oB9 := Lib.hid (owns_kept oB.out g9 (fun q hq e => by have e : some (w1.heap.size + 1 + 1) = some q := e; injection e with e; exact (nB.out q hq).2 e.symm))
          have h89 := Lib.hid ((g9.block _ (blk_lt h8.out) (fun e => by have e : some (w1.heap.size + 1 + 1) = some (w1.heap.size + 1) := e.symm; injection e with e; omega)).trans h8.out)
          clear g9 oV oB h8 hbw
          go_wp2
          go_roundw
          case rel => exact ⟨i + 1, by omega, rfl, by rw [hs.out], oV9, Lib.hid (by rw [hs.out]; exact oB9.out), nB, Lib.hid (by rw [hs.out]; exact h89.out), hb9⟩
          case measure => exact hm9.out
        · have hcost := Lib.hid (spec_cost (h.out.below hbw.out) (show Row _ (.slice (some ⟨w1.heap.size + 1 + 1, 0, none⟩) p.rules.length p.rules.length) 1 (seqv p i).length (ints (seqv p i)) by rw [seqv_len]; exact row_of_owns oV.out) hR.out (seqv_ok hR.out hi) ht.out x)
          obtain ⟨o1, ho1⟩ : ∃ o, overC p x (seqv p i) = o := ⟨_, rfl⟩
          obtain ⟨s1, hs1⟩ : ∃ o, sumOf p (seqv p i) = o := ⟨_, rfl⟩
          have hcv : costVal p (seqv p i) x = cost o1 s1 := by rw [← ho1, ← hs1]; rfl
          rw [hcv] at hcost
          replace ho1 := Lib.hid ho1
          replace hs1 := Lib.hid hs1
          replace hcost := Lib.hid hcost.out
          clear hcv
          have kr := Lib.hid (blk_below k.out hbw.out)
          have lk := blk_lt kr.out
          obtain ⟨x0, x1, x2, x3, x4⟩ := blk5 kr.out
          go_wp2_with fail
          refine hcost.out.mono ?_
          rintro e w5 ⟨rfl, b5⟩
          clear x0 x1 x2 x3 x4 lk kr
          replace oV := Lib.hid (own_below oV.out b5)
          replace oB := Lib.hid (own_below oB.out b5)
          replace h8 := Lib.hid (blk_below h8.out b5)
          replace hbw := Lib.hid (hbw.out.trans (b5.mono hbw.out.size))
          clear b5 hcost
          have a6 := (Below.refl w5.heap.size w5).alloc (Nat.le_refl _) (.cells #[.int .i64 o1, .int .i64 s1] 57)
          have kd := heap_alloc_new w5 (.cells #[.int .i64 o1, .int .i64 s1] 57)
          obtain ⟨w6, hw6⟩ : ∃ W, w5.alloc (.cells #[.int .i64 o1, .int .i64 s1] 57) = W := ⟨_, rfl⟩
          rw [hw6] at a6 kd
          replace hw6 := Lib.hid hw6
          replace kd := Lib.hid kd
          have z6 : w6.heap.size = w5.heap.size + 1 := by rw [← hw6.out]; simp
          have y8 := Lib.hid h8.out
          have l8 := blk_lt h8.out
          obtain ⟨y0, y1⟩ := blk2 y8.out
          replace oV := Lib.hid (own_below oV.out a6)
          replace oB := Lib.hid (own_below oB.out a6)
          replace h8 := Lib.hid (blk_below h8.out a6)
          replace hbw := Lib.hid (hbw.out.trans (a6.mono hbw.out.size))
          clear a6
          have s6 := (oV.out.lt (w1.heap.size + 1 + 1) rfl).2
          cases bf
          · skip
            have hs := Lib.hid (show bestTo p x (i + 1) = ⟨seqv p i, o1, s1, true⟩ by rw [step_yes (show takes p x (bestTo p x i) i = true by unfold takes; rw [hbt.out, hBd.out]; rfl), ho1.out, hs1.out])
            clear y0 y1 l8 y8
            have oe := own_empty w6 3 1
            have ae := (Below.refl w6.heap.size w6).alloc (Nat.le_refl _) (.cells #[] 3)
            obtain ⟨vn, wA, hrun, oA, bA, -, -⟩ := append_row EI (w0 := w6) oe ae ((show Row _ (.slice (some ⟨w1.heap.size + 1 + 1, 0, none⟩) p.rules.length p.rules.length) 1 (seqv p i).length (ints (seqv p i)) by rw [seqv_len]; exact row_of_owns oV.out).below ae) (by simp [ints, Value.oneCell']) (by rw [seqv_len]; simp only [maxLen]; omega) (by rw [seqv_len]; omega)
            rw [z6, ← hw6.out] at hrun
            simp only [Nat.zero_add, List.nil_append] at oA
            have kdA := blk_below kd.out bA
            replace oV := Lib.hid (own_below oV.out bA)
            replace oB := Lib.hid (own_below oB.out bA)
            replace h8 := Lib.hid (blk_below h8.out bA)
            replace hbw := Lib.hid (hbw.out.trans (bA.mono hbw.out.size))
            have nA : Hid (∀ q, vn.ownBlock = some q → q ≠ w1.heap.size + 1 ∧ q ≠ w1.heap.size + 1 + 1) := Lib.hid (fun q hq => by
              have h1 := (oA.lt q hq).1
              have h2 := s6
              omega)
            have oA2 := Lib.hid (own_mono oA (show w1.heap.size ≤ w6.heap.size by omega))
            clear oA bA oB nB oe ae
            obtain ⟨y0, y1⟩ := blk2 h8.out
            have l8 := blk_lt h8.out
            have g0 := frz h8.out 0
            have g1 := frz h8.out 1
            obtain ⟨d0, d1⟩ := blk2 kdA
            have ld := blk_lt kdA
            replace kdA := Lib.hid kdA
            have kr := Lib.hid (blk_below k.out hbw.out)
            have lk := blk_lt kr.out
            obtain ⟨x0, x1, x2, x3, x4⟩ := blk5 kr.out
            have h8b := Lib.hid (heap_set (heap_set h8.out 0 (.int .i64 o1)) 1 (.int .i64 s1))
            have hne8 : ∀ q, vn.ownBlock = some q → (some (w1.heap.size + 1) : Option Nat) ≠ some q := fun q hq e => by injection e with e; exact (nA.out q hq).1 e.symm
            have gS : wA.grownBy ((wA.setCell ⟨w1.heap.size + 1, 0, none⟩ (.int .i64 o1)).setCell ⟨w1.heap.size + 1, 1, none⟩ (.int .i64 s1)) (some (w1.heap.size + 1)) := grown_set (grown_set (World.grownBy.refl wA _) 0 _) 1 _
            have sS := hbw.out.size
            have oBn := Lib.hid (owns_kept oA2.out gS hne8)
            have oVn := Lib.hid (owns_kept oV.out gS (fun q hq e => by have hq : some (w1.heap.size + 1 + 1) = some q := hq; injection hq with hq; injection e with e; omega))
            have hbn := Lib.hid (hbw.out.grown gS sS (fun q hq => by injection hq with hq; omega))
            obtain ⟨wS, hwS⟩ : ∃ W, (wA.setCell ⟨w1.heap.size + 1, 0, none⟩ (.int .i64 o1)).setCell ⟨w1.heap.size + 1, 1, none⟩ (.int .i64 s1) = W := ⟨_, rfl⟩
            rw [hwS] at h8b oBn oVn hbn gS
            replace hwS := Lib.hid hwS
            clear gS hne8 oV h8 hbw oA2
            have oV := oVn
            have oB := oBn
            have h8 := h8b
            have hbw := hbn
            clear oVn oBn h8b hbn
            have nB := nA
            clear nA
            replace hrun := hrun
            go_wp2_with (at_builtin; refine wpList_append_run rfl rfl hrun ?_)
            rw [hwS.out]
            clear y0 y1 l8 g0 g1 d0 d1 ld hrun hwS
            clear x0 x1 x2 x3 x4 lk kr
            refine (spec_step h.out hbw.out hR.out hi oV.out).mono ?_
            rintro e w9 ⟨rfl, oV9, g9⟩
            have hm9 := Lib.hid (left_lt hR.out hi oV0.out oV9)
            replace oV9 := Lib.hid oV9
            have s9 := hbw.out.size
            have hb9 := Lib.hid (hbw.out.grown g9 s9 (fun q hq => by have hq : some (w1.heap.size + 1 + 1) = some q := hq; injection hq with hq; omega))
            have oB9 := Lib.hid (owns_kept oB.out g9 (fun q hq e => by have e : some (w1.heap.size + 1 + 1) = some q := e; injection e with e; exact (nB.out q hq).2 e.symm))
            have h89 := Lib.hid ((g9.block _ (blk_lt h8.out) (fun e => by have e : some (w1.heap.size + 1 + 1) = some (w1.heap.size + 1) := e.symm; injection e with e; omega)).trans h8.out)
            clear g9 oV oB h8 hbw
            go_wp2
            go_roundw
            case rel => exact ⟨i + 1, by omega, rfl, by rw [hs.out], oV9, Lib.hid (by rw [hs.out]; exact oB9.out), nB, Lib.hid (by rw [hs.out]; exact h89.out), hb9⟩
            case measure => exact hm9.out
          · have hless := Lib.hid (fun W => Cost.spec_less o1 s1 bo bs W)
            obtain ⟨bl, hbl⟩ : ∃ b, Cost.less o1 s1 bo bs = b := ⟨_, rfl⟩
            rw [hbl] at hless
            replace hbl := Lib.hid hbl
            go_wp2_with fail
            rw [hw6.out]
            refine (hless.out _).mono ?_
            rintro e w7 ⟨rfl, b7⟩
            clear y0 y1 l8 y8 hless hw6
            replace kd := Lib.hid (blk_below kd.out b7)
            replace oV := Lib.hid (own_below oV.out b7)
            replace oB := Lib.hid (own_below oB.out b7)
            replace h8 := Lib.hid (blk_below h8.out b7)
            replace hbw := Lib.hid (hbw.out.trans (b7.mono hbw.out.size))
            replace s6 := (oV.out.lt (w1.heap.size + 1 + 1) rfl).2
            clear b7
            cases bl
            · have hs := Lib.hid ((step_no (x := x) (show takes p x (bestTo p x i) i = false by unfold takes; rw [hbt.out, hBd.out, ho1.out, hs1.out]; simp [hbl.out])).trans hBd.out)
              clear kd
              have kr := Lib.hid (blk_below k.out hbw.out)
              have lk := blk_lt kr.out
              obtain ⟨x0, x1, x2, x3, x4⟩ := blk5 kr.out
              go_wp2_with fail
              refine (spec_step h.out hbw.out hR.out hi oV.out).mono ?_
              rintro e w9 ⟨rfl, oV9, g9⟩
              clear x0 x1 x2 x3 x4 lk kr
              have hm9 := Lib.hid (left_lt hR.out hi oV0.out oV9)
              replace oV9 := Lib.hid oV9
              have s9 := hbw.out.size
              have hb9 := Lib.hid (hbw.out.grown g9 s9 (fun q hq => by have hq : some (w1.heap.size + 1 + 1) = some q := hq; injection hq with hq; omega))
              have oB9 := Lib.hid (owns_kept oB.out g9 (fun q hq e => by have e : some (w1.heap.size + 1 + 1) = some q := e; injection e with e; exact (nB.out q hq).2 e.symm))
              have h89 := Lib.hid ((g9.block _ (blk_lt h8.out) (fun e => by have e : some (w1.heap.size + 1 + 1) = some (w1.heap.size + 1) := e.symm; injection e with e; omega)).trans h8.out)
              clear g9 oV oB h8 hbw
              go_wp2
              go_roundw
              case rel => exact ⟨i + 1, by omega, rfl, by rw [hs.out], oV9, Lib.hid (by rw [hs.out]; exact oB9.out), nB, Lib.hid (by rw [hs.out]; exact h89.out), hb9⟩
              case measure => exact hm9.out
            · skip
              have hs := Lib.hid (show bestTo p x (i + 1) = ⟨seqv p i, o1, s1, true⟩ by rw [step_yes (show takes p x (bestTo p x i) i = true by unfold takes; rw [hbt.out, hBd.out, ho1.out, hs1.out]; simp [hbl.out]), ho1.out, hs1.out])
              have oe := own_empty w7 3 1
              have ae := (Below.refl w7.heap.size w7).alloc (Nat.le_refl _) (.cells #[] 3)
              obtain ⟨vn, wA, hrun, oA, bA, -, -⟩ := append_row EI (w0 := w7) oe ae ((show Row _ (.slice (some ⟨w1.heap.size + 1 + 1, 0, none⟩) p.rules.length p.rules.length) 1 (seqv p i).length (ints (seqv p i)) by rw [seqv_len]; exact row_of_owns oV.out).below ae) (by simp [ints, Value.oneCell']) (by rw [seqv_len]; simp only [maxLen]; omega) (by rw [seqv_len]; omega)
              simp only [Nat.zero_add, List.nil_append] at oA
              have kdA := blk_below kd.out bA
              replace oV := Lib.hid (own_below oV.out bA)
              replace oB := Lib.hid (own_below oB.out bA)
              replace h8 := Lib.hid (blk_below h8.out bA)
              replace hbw := Lib.hid (hbw.out.trans (bA.mono hbw.out.size))
              have nA : Hid (∀ q, vn.ownBlock = some q → q ≠ w1.heap.size + 1 ∧ q ≠ w1.heap.size + 1 + 1) := Lib.hid (fun q hq => by
                have h1 := (oA.lt q hq).1
                have h2 := s6
                omega)
              have oA2 := Lib.hid (own_mono oA (show w1.heap.size ≤ w7.heap.size by omega))
              clear oA bA oB nB oe ae
              obtain ⟨y0, y1⟩ := blk2 h8.out
              have l8 := blk_lt h8.out
              have g0 := frz h8.out 0
              have g1 := frz h8.out 1
              obtain ⟨d0, d1⟩ := blk2 kdA
              have ld := blk_lt kdA
              replace kdA := Lib.hid kdA
              have kr := Lib.hid (blk_below k.out hbw.out)
              have lk := blk_lt kr.out
              obtain ⟨x0, x1, x2, x3, x4⟩ := blk5 kr.out
              have h8b := Lib.hid (heap_set (heap_set h8.out 0 (.int .i64 o1)) 1 (.int .i64 s1))
              have hne8 : ∀ q, vn.ownBlock = some q → (some (w1.heap.size + 1) : Option Nat) ≠ some q := fun q hq e => by injection e with e; exact (nA.out q hq).1 e.symm
              have gS : wA.grownBy ((wA.setCell ⟨w1.heap.size + 1, 0, none⟩ (.int .i64 o1)).setCell ⟨w1.heap.size + 1, 1, none⟩ (.int .i64 s1)) (some (w1.heap.size + 1)) := grown_set (grown_set (World.grownBy.refl wA _) 0 _) 1 _
              have sS := hbw.out.size
              have oBn := Lib.hid (owns_kept oA2.out gS hne8)
              have oVn := Lib.hid (owns_kept oV.out gS (fun q hq e => by have hq : some (w1.heap.size + 1 + 1) = some q := hq; injection hq with hq; injection e with e; omega))
              have hbn := Lib.hid (hbw.out.grown gS sS (fun q hq => by injection hq with hq; omega))
              obtain ⟨wS, hwS⟩ : ∃ W, (wA.setCell ⟨w1.heap.size + 1, 0, none⟩ (.int .i64 o1)).setCell ⟨w1.heap.size + 1, 1, none⟩ (.int .i64 s1) = W := ⟨_, rfl⟩
              rw [hwS] at h8b oBn oVn hbn gS
              replace hwS := Lib.hid hwS
              clear gS hne8 oV h8 hbw oA2
              have oV := oVn
              have oB := oBn
              have h8 := h8b
              have hbw := hbn
              clear oVn oBn h8b hbn
              have nB := nA
              clear nA
              replace hrun := hrun
              go_wp2_with (at_builtin; refine wpList_append_run rfl rfl hrun ?_)
              rw [hwS.out]
              clear y0 y1 l8 g0 g1 d0 d1 ld hrun hwS
              clear x0 x1 x2 x3 x4 lk kr
              refine (spec_step h.out hbw.out hR.out hi oV.out).mono ?_
              rintro e w9 ⟨rfl, oV9, g9⟩
              have hm9 := Lib.hid (left_lt hR.out hi oV0.out oV9)
              replace oV9 := Lib.hid oV9
              have s9 := hbw.out.size
              have hb9 := Lib.hid (hbw.out.grown g9 s9 (fun q hq => by have hq : some (w1.heap.size + 1 + 1) = some q := hq; injection hq with hq; omega))
              have oB9 := Lib.hid (owns_kept oB.out g9 (fun q hq e => by have e : some (w1.heap.size + 1 + 1) = some q := e; injection e with e; exact (nB.out q hq).2 e.symm))
              have h89 := Lib.hid ((g9.block _ (blk_lt h8.out) (fun e => by have e : some (w1.heap.size + 1 + 1) = some (w1.heap.size + 1) := e.symm; injection e with e; omega)).trans h8.out)
              clear g9 oV oB h8 hbw
              go_wp2
              go_roundw
              case rel => exact ⟨i + 1, by omega, rfl, by rw [hs.out], oV9, Lib.hid (by rw [hs.out]; exact oB9.out), nB, Lib.hid (by rw [hs.out]; exact h89.out), hb9⟩
              case measure => exact hm9.out
      · have dm : decide (i < allN p) = false := decide_eq_false hi
        have hin : i = allN p := by omega
        subst hin
        have kr := Lib.hid (blk_below k1.out hbw.out)
        obtain ⟨v0, v1⟩ := blk2 kr.out
        have g0 := frz kr.out 0
        have g1 := frz kr.out 1
        obtain ⟨y0, y1⟩ := blk2 h8.out
        have l8 := blk_lt h8.out
        have l5 := blk_lt kr.out
        go_wp2
        refine wp_region_mix (fun w' => w'.heap[w1.heap.size + 1]? = some (.cells #[.int .i64 (bestTo p x (allN p)).o, .int .i64 (bestTo p x (allN p)).s] 57 (0, 0))) [(0, true), (1, true), (2, true), (3, false), (4, false)] (by kernel_rfl) (by kernel_rfl) (fun d _ _ _ _ h => by cases d <;> exact h) h8.out ?_
        repeat
         (refine mix_still rfl (by rfl) ?_
          apply Exists.intro
          refine ⟨fun w' hS => ?_, ?_⟩
          · (obtain ⟨z0, z1⟩ := blk2 hS; clear hS; go_simp; (try go_bits); with_reducible rfl)
          (go_simp; (try go_bits)))
        refine mix_loud rfl (fun K hK => ?_)
        (go_simp; (try go_bits))
        refine hK _ _ (fun _ => ?_) ?_
        · exact (Below.heap_setCell _ ⟨_, 1, none⟩ _ _ (by simp; omega)).trans ((Below.heap_setCell wr ⟨_, 0, none⟩ _ _ (by simp; omega)).trans h8.out)
        clear hK K
        try (go_simp; (try go_bits))
        refine mix_loud rfl (fun K hK => ?_)
        (go_simp; (try go_bits))
        refine hK _ _ (no_need (by kernel_rfl)) ?_
        clear hK K
        try (go_simp; (try go_bits))
        refine mix_nil ?_
        go_wp2
        have hfd : Hid ((bestTo p x (allN p)).f = true) := Lib.hid (by obtain ⟨n, hn⟩ : ∃ n, allN p = n + 1 := ⟨allN p - 1, by omega⟩; rw [hn]; exact bestTo_found hR.out x n)
        have hBw := hB.out.trans (hbw.out.mono hB.out.size)
        refine bodyPost_ret (v := .tuple #[u7, cost (bestTo p x (allN p)).o (bestTo p x (allN p)).s, .bool true]) (by simp [results, Try.results45, go_sem, v0, v1]) rfl ⟨_, by rw [hyes.out, hfd.out], ?_, ?_⟩
        · rw [hyes.out]
          have hl1 : w1.heap.size ≤ w1.heap.size := Nat.le_refl _
          have gS : wr.grownBy ((wr.setCell ⟨w.heap.size + 1, 0, none⟩ (.int .i64 (bestTo p x (allN p)).o)).setCell ⟨w.heap.size + 1, 1, none⟩ (.int .i64 (bestTo p x (allN p)).s)) (some (w.heap.size + 1)) := grown_set (grown_set (World.grownBy.refl wr _) 0 _) 1 _
          have hob := Lib.hid (fun q hq => (oB.out.lt q hq).1)
          exact own_mono (owns_kept oB.out (grown_drew gS) (fun q hq e => by have := hob.out q hq; injection e with e; omega)) hB.out.size
        · repeat (first | (with_reducible exact hBw) | refine Below.drew ?_ | refine Below.setCell ?_ (by simp <;> omega) _)
end Go.Proofs.Ytlakellmdcdaaaa.Pc

/-
  The contract of impl.chunksOk.
  Conditions: the piece reads as a piece, its texts are short.
-/
import Derived.Test.YtlakellmdcdaaaaPc4
namespace Go.Proofs.Ytlakellmdcdaaaa.Pc
open Go.RowKit Go.Proofs.Ytlakellmdcdaaaa.Row Go.Proofs.Ytlakellmdcdaaaa.Mem Go.Proofs.Ytlakellmdcdaaaa.Mix Go.Proofs.Ytlakellmdcdaaaa.Recs Go.Proofs.Ytlakellmdcdaaaa.Owns Go.Proofs.Ytlakellmdcdaaaa.Blocks Go.Proofs.Ytlakellmdcdaaaa.Piece Go.Proofs.Ytlakellmdcdaaaa.All Go.Proofs.Ytlakellmdcdaaaa.Ints
theorem chunksOk_no {p : P} {k : Nat} (hk : k < p.chunks.length) (h : chunkFit p k = false) : chunksOk p = false := by
  unfold chunksOk; rw [allTo_off h _ hk]; simp
set_option maxRecDepth 100000 in
set_option maxHeartbeats 3200000 in
theorem impl_chunksOk {p : P} {r c s t : Value} {w : World} (h : PRow w p r c s t) (hs : ∀ x ∈ p.chunks, x.t.size ≤ 1099511627776) :
    Calls Try.prog 76 #[pv p.ind r c s t] w fun e w' => e = .returned (.bool (chunksOk p)) ∧ Below w.heap.size w w' := by
  obtain ⟨⟨A1, m1, rfl⟩, ⟨A2, m2, rfl⟩, ⟨A3, m3, rfl⟩, ⟨A4, m4, rfl⟩⟩ := h.lits
  obtain ⟨A, c1, e1, -, hn, hnc, hcm, ha⟩ := h.chunks
  injection e1 with ea el ec
  subst ea ec
  clear el
  have hb0 := (Below.refl w.heap.size w).alloc (Nat.le_refl _) (.cells #[.int .i64 p.ind, .slice A1 p.rules.length m1, .slice A2 p.chunks.length m2, .slice A3 p.spans.length m3, .slice A4 p.ties.length m4] 35)
  have hbx0 := heap_alloc_new w (.cells #[.int .i64 p.ind, .slice A1 p.rules.length m1, .slice A2 p.chunks.length m2, .slice A3 p.spans.length m3, .slice A4 p.ties.length m4] 35)
  replace h := Lib.hid h
  replace hs := Lib.hid hs
  replace hb0 := Lib.hid hb0
  cases h0 : inR (p.chunks.length : Int) 1 80
  · have hno := Lib.hid (show chunksOk p = false by unfold chunksOk; rw [h0]; rfl)
    clear ha hbx0
    go_enter Try.func76, Try.ntmps76
    go_wp2_with (go_at_call 67; refine (impl_inRange _ _ _ _).mono ?_; rintro e w1 ⟨rfl, rfl⟩)
    go_ret
    exact ⟨by rw [hno.out]; rfl, hb0.out⟩
  · obtain ⟨n0, n80⟩ := inR_iff.1 h0
    have hall : Hid (∀ b, (allTo (chunkFit p) p.chunks.length && lastFit p) = b → chunksOk p = b) := Lib.hid (fun b e => by unfold chunksOk; rw [h0, e]; rfl)
    replace hbx0 := Lib.hid hbx0
    go_enter Try.func76, Try.ntmps76
    go_wp2_with (go_at_call 67; refine (impl_inRange _ _ _ _).mono ?_; rintro e w1 ⟨rfl, rfl⟩)
    go_loopw [4, 15] (fun _ i wr => ∃ k : Nat, k ≤ p.chunks.length ∧ i = .int .i64 k ∧ Hid (allTo (chunkFit p) k = true) ∧ Below w.heap.size w wr ∧ Hid (wr.heap[w.heap.size]? = some (.cells #[.int .i64 p.ind, .slice A1 p.rules.length m1, .slice A2 p.chunks.length m2, .slice A3 p.spans.length m3, .slice A4 p.ties.length m4] 35 (0, 0)))) (fun _ i _ => p.chunks.length - (intOf i).toNat)
    case atStart => exact ⟨0, by omega, rfl, Lib.hid rfl, hb0.out, hbx0⟩
    case round =>
      clear hbx0
      obtain ⟨k, hk, rfl, hr, hbw, hbx⟩ := hrel
      have hs0 := blk_lt hbx.out
      have hsz := hbw.size
      obtain ⟨x0, x1, x2, x3, x4⟩ := blk5 hbx.out
      by_cases hlt : k < p.chunks.length
      · obtain ⟨b, off, rfl, hb, hc⟩ := ha (by omega)
        obtain ⟨c0, c1, c2, c3, c4⟩ := Chunk.cells_ (fun j u hu => (cells_of hbw b _ hb).trans (hc j u hu)) hlt
        have z3 : b ≠ wr.heap.size := by omega
        have hst := hs.out _ (List.getElem_mem hlt)
        have hpl := Lib.hid (fun (W : World) => impl_plain p.chunks[k].t hst W)
        have hat := Lib.hid (show chunkFit p k = (plain p.chunks[k].t && (!decide (k + 1 < p.chunks.length) || splitFit p p.chunks[k])) by unfold chunkFit; rw [chunkAt_eq hlt])
        have hbn := Lib.hid (hbw.alloc hsz (.cells p.chunks[k].cells.toArray 95))
        have hbxn := Lib.hid ((Below.heap_alloc wr (.cells p.chunks[k].cells.toArray 95) _ hs0).trans hbx.out)
        have hsp := Lib.hid (impl_split (h.out.below (hbw.alloc hsz (.cells p.chunks[k].cells.toArray 95))) p.chunks[k])
        unfold Chunk.T.cells at hbn hbxn hsp
        clear hc ha hst
        cases h1 : plain p.chunks[k].t
        · rw [h1] at hpl
          have hno := Lib.hid (chunksOk_no hlt (by rw [hat.out, h1]; rfl))
          clear h1
          go_wp2_with (go_at_call 109; refine (hpl.out _).mono ?_; rintro e w1 ⟨rfl, rfl⟩)
          go_ret
          exact ⟨by rw [hno.out]; rfl, hbn.out⟩
        · rw [h1] at hpl
          by_cases hl : k + 1 < p.chunks.length
          · have d1 : decide ((k : Int) < (p.chunks.length : Int) - 1) = true := by simp; omega
            cases h2 : splitFit p p.chunks[k]
            · rw [h2] at hsp
              have hno := Lib.hid (chunksOk_no hlt (by rw [hat.out, h1, h2, decide_eq_true hl]; rfl))
              clear h1 h2
              go_wp2_with (first | (go_at_call 109; refine (hpl.out _).mono ?_; rintro e w1 ⟨rfl, rfl⟩) | (go_at_call 110; refine hsp.out.mono ?_; rintro e w1 ⟨rfl, hb2⟩))
              go_ret
              exact ⟨by rw [hno.out]; rfl, hbn.out.trans (hb2.mono hbn.out.size)⟩
            · rw [h2] at hsp
              have hon := Lib.hid (allTo_on hr.out (show chunkFit p k = true by rw [hat.out, h1, h2, decide_eq_true hl]; rfl))
              clear h1 h2
              go_wp2_with (first | (go_at_call 109; refine (hpl.out _).mono ?_; rintro e w1 ⟨rfl, rfl⟩) | (go_at_call 110; refine hsp.out.mono ?_; rintro e w1 ⟨rfl, hb2⟩))
              go_roundw
              case rel => exact ⟨k + 1, by omega, by go_num, hon, hbn.out.trans (hb2.mono hbn.out.size), Lib.hid (blk_below hbxn.out hb2)⟩
              case measure => simp [intOf]; omega
          · have d1 : decide ((k : Int) < (p.chunks.length : Int) - 1) = false := by simp; omega
            have hon := Lib.hid (allTo_on hr.out (show chunkFit p k = true by rw [hat.out, h1, decide_eq_false hl]; rfl))
            clear h1 hsp
            go_wp2_with (go_at_call 109; refine (hpl.out _).mono ?_; rintro e w1 ⟨rfl, rfl⟩)
            go_roundw
            case rel => exact ⟨k + 1, by omega, by go_num, hon, hbn.out, hbxn⟩
            case measure => simp [intOf]; omega
      · obtain ⟨m, hm⟩ : ∃ m, p.chunks.length = m + 1 := ⟨p.chunks.length - 1, by omega⟩
        have hml : m < p.chunks.length := by omega
        obtain ⟨b, off, rfl, hb, hc⟩ := ha (by omega)
        obtain ⟨c0, c1, c2, c3, c4⟩ := Chunk.cells_ (fun j u hu => (cells_of hbw b _ hb).trans (hc j u hu)) hml
        have hat : Hid (lastFit p = zeroSplit p.chunks[m]) := Lib.hid (by unfold lastFit; rw [hm, Nat.add_sub_cancel, chunkAt_eq hml])
        have hal : Hid (allTo (chunkFit p) p.chunks.length = true) := Lib.hid (by have := hr.out; rwa [show k = p.chunks.length by omega] at this)
        have hv := Lib.hid (hall.out (zeroSplit p.chunks[m]) (by rw [hal.out, hat.out]; rfl))
        have e1 : (p.chunks.length : Int) - 1 = (m : Int) := by omega
        have hmi : (m : Int) < (p.chunks.length : Int) := by omega
        have hkl : ¬ ((k : Int) < (p.chunks.length : Int)) := by omega
        replace hm := Lib.hid hm
        clear hc ha hr
        go_wp2
        all_goals
          go_ret
          exact ⟨by rw [hv.out]; simp_all [zeroSplit], hbw⟩
end Go.Proofs.Ytlakellmdcdaaaa.Pc

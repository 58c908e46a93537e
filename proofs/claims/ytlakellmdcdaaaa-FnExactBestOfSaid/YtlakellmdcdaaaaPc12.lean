/-
  By how much lines are too long: the contract of spec.l09Over.
  Conditions: a right piece, right values; texts of 2^20 bytes at most together; a width from 0 to 100000.
-/
import Derived.Test.YtlakellmdcdaaaaPc11
namespace Go.Proofs.Ytlakellmdcdaaaa.Pc
open Go.RowKit Go.Proofs.Ytlakellmdcdaaaa.Row Go.Proofs.Ytlakellmdcdaaaa.Mem Go.Proofs.Ytlakellmdcdaaaa.Mix Go.Proofs.Ytlakellmdcdaaaa.Recs Go.Proofs.Ytlakellmdcdaaaa.Owns Go.Proofs.Ytlakellmdcdaaaa.Blocks Go.Proofs.Ytlakellmdcdaaaa.Piece Go.Proofs.Ytlakellmdcdaaaa.All Go.Proofs.Ytlakellmdcdaaaa.Ints Go.Proofs.Ytlakellmdcdaaaa.Strs Go.Proofs.Ytlakellmdcdaaaa.Rep
theorem wrap_small {z : Int} (h0 : -1000000000000 ≤ z) (h1 : z ≤ 1000000000000) : wrap64 z = z := by unfold wrap64; omega
def ex (W : Int) (l : ByteArray) : Int := if W < (l.size : Int) then (l.size : Int) - W else 0
def overOf (W : Int) : List ByteArray → Int
  | [] => 0
  | l :: ls => ex W l + overOf W ls
theorem over_snoc (W : Int) (l : ByteArray) : ∀ (ls : List ByteArray), overOf W (ls ++ [l]) = overOf W ls + ex W l
  | [] => by simp [overOf]
  | a :: ls => by rw [List.cons_append, overOf, overOf, over_snoc W l ls]; omega
theorem ex_bd {W : Int} {l : ByteArray} (h0 : 0 ≤ W) {B : Nat} (h : l.size ≤ B) : 0 ≤ ex W l ∧ ex W l ≤ B := by
  unfold ex
  split <;> omega
theorem over_bd {W : Int} (h0 : 0 ≤ W) {B : Nat} : ∀ {ls : List ByteArray}, (∀ l ∈ ls, l.size ≤ B) → 0 ≤ overOf W ls ∧ overOf W ls ≤ ls.length * B
  | [], _ => by simp [overOf]
  | a :: ls, h => by
    have ih := over_bd h0 (ls := ls) (fun l hl => h l (List.mem_cons_of_mem _ hl))
    have h1 := ex_bd h0 (h a List.mem_cons_self)
    rw [overOf, List.length_cons, Int.natCast_succ, Int.add_mul]
    omega
theorem lines_le {p : P} (xs : List Int) (hR : Right p) : ∀ {k : Nat}, k ≤ p.chunks.length → ∀ l ∈ (ren p xs k).1, l.size ≤ 100 + tt p k + k
  | 0, _ => by simp [ren]
  | k + 1, h => by
    have ih := lines_le xs hR (k := k) (by omega)
    have hz := ren_size xs hR (k := k) (by omega)
    have hw : ∀ l ∈ (ren p xs k).1, l.size ≤ 100 + tt p (k + 1) + (k + 1) := fun l hl => by have := ih l hl; rw [tt]; omega
    unfold ren
    split
    · exact hw
    · split
      · intro l hl
        rcases List.mem_append.1 hl with hl | hl
        · exact hw l hl
        · obtain rfl := List.mem_singleton.1 hl
          rw [add_size, tt]
          omega
      · split <;> exact hw
theorem render_le {p : P} (xs : List Int) (hR : Right p) (ht : tot (Chunk.texts p.chunks) ≤ 1048576) : ∀ l ∈ renderTo p xs, l.size ≤ 1048800 := by
  have hn := hR.nchunks
  have h2 := tt_le (p := p) (Nat.le_refl _)
  intro l hl
  rcases List.mem_append.1 hl with hl | hl
  · have := lines_le xs hR (Nat.le_refl _) l hl; omega
  · obtain rfl := List.mem_singleton.1 hl
    have := ren_size xs hR (k := p.chunks.length) (Nat.le_refl _); omega
theorem renOver_bd {p : P} (xs : List Int) (hR : Right p) (ht : tot (Chunk.texts p.chunks) ≤ 1048576) {W : Int} (h0 : 0 ≤ W) {k : Nat} (hk : k ≤ p.chunks.length) : 0 ≤ overOf W (ren p xs k).1 ∧ overOf W (ren p xs k).1 ≤ 83904000 := by
  have hn := hR.nchunks
  have h2 := tt_le hk
  have h := over_bd h0 (B := 1048800) (ls := (ren p xs k).1) (fun l hl => by have := lines_le xs hR hk l hl; omega)
  have hl := ren_len p xs k
  omega
/-- what l09Over has found ahead of chunk k -/
def ov (p : P) (xs : List Int) (W : Int) (k : Nat) : Int := if k = p.chunks.length then overOf W (renderTo p xs) else overOf W (ren p xs k).1
theorem over_add {W z : Int} {l : ByteArray} {S : Int} (hz : z = (l.size : Int)) : (W < z → S + z - W = S + ex W l) ∧ (¬ W < z → S = S + ex W l) := by
  subst hz
  unfold ex
  constructor
  · intro h; rw [if_pos h]; omega
  · intro h; rw [if_neg h]; omega
set_option maxRecDepth 100000 in
set_option maxHeartbeats 6400000 in
theorem spec_over {p : P} {r c s t v : Value} {xs : List Int} {w : World} (h : PRow w p r c s t) (hv : Row w v 1 xs.length (ints xs)) (hR : Right p) (hx : xs.length = p.rules.length) (ht : tot (Chunk.texts p.chunks) ≤ 1048576) {W : Int} (hW0 : 0 ≤ W) (hW1 : W ≤ 100000) :
    Calls Try.prog 113 #[pv p.ind r c s t, v, .int .i64 W] w fun e w' => e = .returned (.int .i64 (overOf W (renderTo p xs))) ∧ Below w.heap.size w w' := by
  have hi := hR.ind
  have nC := hR.nchunks
  obtain ⟨⟨A1, m1, rfl⟩, ⟨A2, m2, rfl⟩, ⟨A3, m3, rfl⟩, ⟨A4, m4, rfl⟩⟩ := h.lits
  obtain ⟨A, c1, e1, -, nc, ncc, cmc, ac⟩ := h.chunks
  injection e1 with ea el ec
  subst ea ec
  clear el
  obtain ⟨b, off, rfl, hb, hc⟩ := ac (by omega)
  clear ac
  replace hc := Lib.hid hc
  replace h := Lib.hid h
  replace hv := Lib.hid hv
  replace hR := Lib.hid hR
  replace hx := Lib.hid hx
  replace ht := Lib.hid ht
  have hB0 := Lib.hid ((Below.refl w.heap.size w).alloc (Nat.le_refl _) (.cells #[.int .i64 p.ind, .slice A1 p.rules.length m1, .slice (some ⟨b, off, none⟩) p.chunks.length m2, .slice A3 p.spans.length m3, .slice A4 p.ties.length m4] 35))
  have hK0 := Lib.hid (heap_alloc_new w (.cells #[.int .i64 p.ind, .slice A1 p.rules.length m1, .slice (some ⟨b, off, none⟩) p.chunks.length m2, .slice A3 p.spans.length m3, .slice A4 p.ties.length m4] 35))
  go_enter Try.func113, Try.ntmps113
  go_wp2
  go_loopw [7, 8, 9, 10] (fun o n i _ wr => ∃ (k : Nat) (nn : Int), k ≤ p.chunks.length ∧ i = .int .i64 k ∧ o = .int .i64 (ov p xs W k) ∧ n = .int .i64 nn ∧ Hid (k < p.chunks.length → nn = ((ren p xs k).2.size : Int)) ∧ Below w.heap.size w wr ∧ Hid (wr.heap[w.heap.size]? = some (.cells #[.int .i64 p.ind, .slice A1 p.rules.length m1, .slice (some ⟨b, off, none⟩) p.chunks.length m2, .slice A3 p.spans.length m3, .slice A4 p.ties.length m4] 35 (0, 0)))) (fun _ _ i _ _ => p.chunks.length - (intOf i).toNat)
  case atStart => exact ⟨0, p.ind, by omega, rfl, by unfold ov; rw [if_neg (by omega)]; rfl, rfl, Lib.hid (fun _ => by simp only [ren, spaces_size]; omega), hB0.out, hK0⟩
  case round =>
    clear hB0 hK0
    obtain ⟨k, nn, hk, rfl, rfl, rfl, hnn, hbw, hbx⟩ := hrel
    have hsz := hbw.size
    by_cases hlt : k < p.chunks.length
    · obtain rfl := hnn.out hlt
      obtain ⟨x0, x1, x2, x3, x4⟩ := blk5 hbx.out
      obtain ⟨c0, c1, c2, c3, c4⟩ := Chunk.cells_ (fun j u hu => (cells_of hbw b _ hb).trans (hc.out j u hu)) hlt
      have z1 : b < wr.heap.size := Nat.lt_of_lt_of_le hb hbw.size
      have l0 := blk_lt hbx.out
      have hrs := ren_size xs hR.out (k := k) (by omega)
      have htt := tt_le (p := p) (k := k + 1) (by omega)
      rw [tt, chunkAt_eq hlt] at htt
      have htt2 := ht.out
      have hbd := renOver_bd xs hR.out ht.out hW0 hk
      have hok : Hid (ov p xs W k = overOf W (ren p xs k).1) := Lib.hid (by unfold ov; rw [if_neg (by omega)])
      have i0 : (0 : Int) ≤ (k : Int) := by omega
      have i1 : (k : Int) < (p.chunks.length : Int) := by omega
      obtain ⟨z, hz⟩ : ∃ z : Int, ((ren p xs k).2.size : Int) + (p.chunks[k].t.size : Int) = z := ⟨_, rfl⟩
      have hzs : z = (((ren p xs k).2 ++ p.chunks[k].t).size : Int) := by rw [add_size]; omega
      have hzb : 0 ≤ z ∧ z ≤ 1048800 := by omega
      have hA1 : -1000000000000 ≤ z := by omega
      have hA2 : z ≤ 1000000000000 := by omega
      have hwz := Lib.hid (wrap_small hA1 hA2)
      have hw1 : Hid (wrap64 (((ren p xs k).2.size : Int) + (p.chunks[k].t.size : Int)) = z) := Lib.hid (by rw [hz]; exact hwz.out)
      clear hA1 hA2
      replace hz := Lib.hid hz
      have hadd := over_add (W := W) (S := overOf W (ren p xs k).1) hzs
      rw [← over_snoc] at hadd
      replace hadd := Lib.hid hadd
      rw [hok.out]
      generalize hSS : overOf W (ren p xs k).1 = S at *
      replace hSS := Lib.hid hSS
      replace hzs := Lib.hid hzs
      clear hrs htt htt2
      by_cases hl : k + 1 = p.chunks.length
      · have d1 : decide ((k : Int) + 1 = (p.chunks.length : Int)) = true := by simp; omega
        have d1' : ((k : Int) + 1 == (p.chunks.length : Int)) = true := by simp; omega
        have hov : Hid (ov p xs W (k + 1) = overOf W ((ren p xs k).1 ++ [(ren p xs k).2 ++ p.chunks[k].t])) := Lib.hid (by unfold ov renderTo; rw [if_pos hl, ← hl, ren, if_pos hl, chunkAt_eq hlt])
        generalize overOf W ((ren p xs k).1 ++ [(ren p xs k).2 ++ p.chunks[k].t]) = S2 at *
        have hlast : Hid (∀ q : Int, k + 1 < p.chunks.length → q = ((ren p xs (k + 1)).2.size : Int)) := Lib.hid (fun q hq => absurd hq (by omega))
        by_cases hgt : W < z
        · have hs1 := Lib.hid (wrap_small (z := S + z) (by omega) (by omega))
          have hs2 := Lib.hid (wrap_small (z := S + z - W) (by omega) (by omega))
          have hov' := Lib.hid (hov.out.trans (hadd.out.1 hgt).symm)
          have hs1v := hs1.out
          have hs2v := hs2.out
          clear hbd hzb
          have hw1v := hw1.out
          have hwzv := hwz.out
          go_wp2
          (try clear hw1v hwzv)
          refine wp_region_below [(0, true), (1, true), (2, true), (3, true), (4, true), (5, true), (6, true), (7, true), (8, true), (9, true), (10, true)] (by kernel_rfl) (by kernel_rfl) (fun d _ _ _ _ h => by cases d <;> exact h) ?_
          repeat
           (refine mix_still rfl (by rfl) ?_
            apply Exists.intro
            refine ⟨fun w' hS => ?_, ?_⟩
            · (have hS' := cells_of hS; clear hS; go_simp; (try go_bits); first | with_reducible rfl | (refine (if_pos ?_).trans ?_; omega; with_reducible rfl))
            (go_simp; (try go_bits)))
          refine mix_nil ?_
          go_wp2
          go_roundw
          (try clear hs1v hs2v)
          case rel => exact ⟨k + 1, _, by omega, by go_num, by rw [hov'.out], rfl, Lib.hid (hlast.out _), hbw.drew, hbx⟩
          case measure => simp [intOf]; omega
        · have dgt : decide (W < z) = false := by simp; omega
          have hov' := Lib.hid (hov.out.trans (hadd.out.2 (by omega)).symm)
          clear hbd hzb
          have hw1v := hw1.out
          have hwzv := hwz.out
          go_wp2
          (try clear hw1v hwzv)
          refine wp_region_below [(0, true), (1, true), (2, true), (3, true), (4, true), (5, true), (6, true), (7, true), (8, true), (9, true), (10, true)] (by kernel_rfl) (by kernel_rfl) (fun d _ _ _ _ h => by cases d <;> exact h) ?_
          repeat
           (refine mix_still rfl (by rfl) ?_
            apply Exists.intro
            refine ⟨fun w' hS => ?_, ?_⟩
            · (have hS' := cells_of hS; clear hS; go_simp; (try go_bits); first | with_reducible rfl | (refine (if_pos ?_).trans ?_; omega; with_reducible rfl))
            (go_simp; (try go_bits)))
          refine mix_nil ?_
          go_wp2
          go_roundw
          case rel => exact ⟨k + 1, _, by omega, by go_num, by rw [hov'.out], rfl, Lib.hid (hlast.out _), hbw.drew, hbx⟩
          case measure => simp [intOf]; omega
      · have d1 : decide ((k : Int) + 1 = (p.chunks.length : Int)) = false := by simp; omega
        have d1' : ((k : Int) + 1 == (p.chunks.length : Int)) = false := by simp; omega
        obtain ⟨a, ea, eal, hn0, hn40, -⟩ := right_split hR.out (i := k) (by omega)
        have hsp := Lib.hid (spec_splits (h.out.below hbw) (hv.out.below hbw) hlt ea (by rw [hx.out]; exact eal))
        have hre : Hid (ren p xs (k + 1) = if splitAt p xs k = true then ((ren p xs k).1 ++ [(ren p xs k).2 ++ p.chunks[k].t], spaces (p.ind + p.chunks[k].n).toNat) else if p.chunks[k].s = true then ((ren p xs k).1, (ren p xs k).2 ++ p.chunks[k].t ++ ByteArray.mk #[32]) else ((ren p xs k).1, (ren p xs k).2 ++ p.chunks[k].t)) := Lib.hid (by rw [ren, if_neg hl, chunkAt_eq hlt])
        have hok2 : Hid (ov p xs W (k + 1) = overOf W (ren p xs (k + 1)).1) := Lib.hid (by unfold ov; rw [if_neg hl])
        rw [chunkAt_eq hlt] at hn0 hn40
        have hwn : wrap64 (p.ind + p.chunks[k].n) = p.ind + p.chunks[k].n := wrap_small (by omega) (by omega)
        have hwr : IntKind.i64.wrap (p.ind + p.chunks[k].n) = p.ind + p.chunks[k].n := by rw [wrap_eq, hwn]
        obtain ⟨bb, hbb⟩ : ∃ b, splitAt p xs k = b := ⟨_, rfl⟩
        rw [hbb] at hsp hre
        clear ea eal hbb
        have hw1v := hw1.out
        have hwzv := hwz.out
        go_wp2_with fail
        (try clear hw1v hwzv)
        refine hsp.out.mono ?_
        rintro e w1 ⟨rfl, bs⟩
        replace hbw := hbw.trans (bs.mono hsz)
        replace hbx := Lib.hid (blk_below hbx.out bs)
        clear bs hsp c0 c1 c2 c3 c4 x0 x1 x2 x3 x4 z1 l0 hsz
        have hsz := hbw.size
        obtain ⟨x0, x1, x2, x3, x4⟩ := blk5 hbx.out
        obtain ⟨c0, c1, c2, c3, c4⟩ := Chunk.cells_ (fun j u hu => (cells_of hbw b _ hb).trans (hc.out j u hu)) hlt
        have z1 : b < w1.heap.size := Nat.lt_of_lt_of_le hb hbw.size
        have l0 := blk_lt hbx.out
        cases bb
        · clear hadd
          cases hsv : p.chunks[k].s
          · rw [hsv] at hre c3
            have hre' : Hid (ren p xs (k + 1) = ((ren p xs k).1, (ren p xs k).2 ++ p.chunks[k].t)) := Lib.hid (by rw [hre.out]; simp)
            clear hre hsv
            go_wp2
            go_roundw
            case rel => exact ⟨k + 1, z, by omega, by go_num, by rw [hok2.out, hre'.out, hSS.out], rfl, Lib.hid (fun _ => by rw [hre'.out]; exact hzs.out), hbw, hbx⟩
            case measure => simp [intOf]; omega
          · rw [hsv] at hre c3
            have hre' : Hid (ren p xs (k + 1) = ((ren p xs k).1, (ren p xs k).2 ++ p.chunks[k].t ++ ByteArray.mk #[32])) := Lib.hid (by rw [hre.out]; simp)
            have hw2 : wrap64 (z + 1) = z + 1 := wrap_small (by omega) (by omega)
            clear hre hsv hbd hzb
            go_wp2
            go_roundw
            case rel => exact ⟨k + 1, z + 1, by omega, by go_num, by rw [hok2.out, hre'.out, hSS.out], by first | rfl | rw [hw2], Lib.hid (fun _ => by rw [hre'.out, add_size, mk_size, Int.natCast_add, ← hzs.out]; rfl), hbw, hbx⟩
            case measure => simp [intOf]; omega
        · have hre' : Hid (ren p xs (k + 1) = ((ren p xs k).1 ++ [(ren p xs k).2 ++ p.chunks[k].t], spaces (p.ind + p.chunks[k].n).toNat)) := Lib.hid (by rw [hre.out]; simp)
          have hov : Hid (ov p xs W (k + 1) = overOf W ((ren p xs k).1 ++ [(ren p xs k).2 ++ p.chunks[k].t])) := Lib.hid (by rw [hok2.out, hre'.out])
          generalize overOf W ((ren p xs k).1 ++ [(ren p xs k).2 ++ p.chunks[k].t]) = S2 at *
          have hnew : Hid (k + 1 < p.chunks.length → p.ind + p.chunks[k].n = ((ren p xs (k + 1)).2.size : Int)) := Lib.hid (fun _ => by rw [hre'.out]; simp only [spaces_size]; omega)
          clear hre hre'
          by_cases hgt : W < z
          · have hs1 := Lib.hid (wrap_small (z := S + z) (by omega) (by omega))
            have hs2 := Lib.hid (wrap_small (z := S + z - W) (by omega) (by omega))
            have hov' := Lib.hid (hov.out.trans (hadd.out.1 hgt).symm)
            have hs1v := hs1.out
            have hs2v := hs2.out
            clear hbd hzb
            have hw1v := hw1.out
            have hwzv := hwz.out
            go_wp2
            (try clear hw1v hwzv)
            refine wp_region_below [(0, true), (1, true), (2, true), (3, true), (4, true), (5, true), (6, true), (7, true), (8, true), (9, true), (10, true)] (by kernel_rfl) (by kernel_rfl) (fun d _ _ _ _ h => by cases d <;> exact h) ?_
            repeat
             (refine mix_still rfl (by rfl) ?_
              apply Exists.intro
              refine ⟨fun w' hS => ?_, ?_⟩
              · (have hS' := cells_of hS; clear hS; go_simp; (try go_bits); first | with_reducible rfl | (refine (if_pos ?_).trans ?_; omega; with_reducible rfl))
              (go_simp; (try go_bits)))
            refine mix_nil ?_
            go_wp2
            go_roundw
            (try clear hs1v hs2v)
            case rel => exact ⟨k + 1, _, by omega, by go_num, by rw [hov'.out], rfl, hnew, hbw.drew, hbx⟩
            case measure => simp [intOf]; omega
          · have dgt : decide (W < z) = false := by simp; omega
            have hov' := Lib.hid (hov.out.trans (hadd.out.2 (by omega)).symm)
            clear hbd hzb
            have hw1v := hw1.out
            have hwzv := hwz.out
            go_wp2
            (try clear hw1v hwzv)
            refine wp_region_below [(0, true), (1, true), (2, true), (3, true), (4, true), (5, true), (6, true), (7, true), (8, true), (9, true), (10, true)] (by kernel_rfl) (by kernel_rfl) (fun d _ _ _ _ h => by cases d <;> exact h) ?_
            repeat
             (refine mix_still rfl (by rfl) ?_
              apply Exists.intro
              refine ⟨fun w' hS => ?_, ?_⟩
              · (have hS' := cells_of hS; clear hS; go_simp; (try go_bits); first | with_reducible rfl | (refine (if_pos ?_).trans ?_; omega; with_reducible rfl))
              (go_simp; (try go_bits)))
            refine mix_nil ?_
            go_wp2
            go_roundw
            case rel => exact ⟨k + 1, _, by omega, by go_num, by rw [hov'.out], rfl, hnew, hbw.drew, hbx⟩
            case measure => simp [intOf]; omega
    · obtain rfl : k = p.chunks.length := by omega
      have hfin : Hid (ov p xs W p.chunks.length = overOf W (renderTo p xs)) := Lib.hid (by unfold ov; rw [if_pos rfl])
      obtain ⟨x0, x1, x2, x3, x4⟩ := blk5 hbx.out
      have l0 := blk_lt hbx.out
      go_wp2
      go_ret
      exact ⟨by rw [← hfin.out]; rfl, hbw⟩
end Go.Proofs.Ytlakellmdcdaaaa.Pc

/-
  What a piece costs: the width kept in bounds, whether a span is split.
  Conditions: a right piece, right values.
-/
import Derived.Test.YtlakellmdcdaaaaPc8
namespace Go.Proofs.Ytlakellmdcdaaaa.Pc
open Go.RowKit Go.Proofs.Ytlakellmdcdaaaa.Row Go.Proofs.Ytlakellmdcdaaaa.Mem Go.Proofs.Ytlakellmdcdaaaa.Mix Go.Proofs.Ytlakellmdcdaaaa.Recs Go.Proofs.Ytlakellmdcdaaaa.Owns Go.Proofs.Ytlakellmdcdaaaa.Blocks Go.Proofs.Ytlakellmdcdaaaa.Piece Go.Proofs.Ytlakellmdcdaaaa.All Go.Proofs.Ytlakellmdcdaaaa.Ints Go.Proofs.Ytlakellmdcdaaaa.Strs Go.Proofs.Ytlakellmdcdaaaa.Rep
def widthOf (x : Int) : Int := if x < 0 then 0 else if 100000 < x then 100000 else x
theorem width_bd (x : Int) : 0 ≤ widthOf x ∧ widthOf x ≤ 100000 := by
  unfold widthOf
  split
  · omega
  · split <;> omega
theorem spec_width (x : Int) (w : World) : Calls Try.prog 114 #[.int .i64 x] w fun e w' => e = .returned (.int .i64 (widthOf x)) ∧ w = w' := by
  by_cases h1 : x < 0
  · have hv := Lib.hid (show widthOf x = 0 by unfold widthOf; rw [if_pos h1])
    go_enter Try.func114, Try.ntmps114
    go_wp2
    go_ret
    exact ⟨by rw [hv.out]; rfl, rfl⟩
  · have d1 : decide (x < 0) = false := by simp; omega
    by_cases h2 : 100000 < x
    · have hv := Lib.hid (show widthOf x = 100000 by unfold widthOf; rw [if_neg h1, if_pos h2])
      clear h1
      go_enter Try.func114, Try.ntmps114
      go_wp2
      go_ret
      exact ⟨by rw [hv.out]; rfl, rfl⟩
    · have d2 : decide (100000 < x) = false := by simp; omega
      have hv := Lib.hid (show widthOf x = x by unfold widthOf; rw [if_neg h1, if_neg h2])
      clear h1 h2
      go_enter Try.func114, Try.ntmps114
      go_wp2
      go_ret
      exact ⟨by rw [hv.out]; rfl, rfl⟩
/-- whether one of so many splits from f on is a line's end -/
def hitTo (p : P) (xs : List Int) (f : Nat) : Nat → Bool
  | 0 => false
  | j + 1 => hitTo p xs f j || splitAt p xs (f + j)
def hit (p : P) (xs : List Int) (i : Nat) : Bool := hitTo p xs (spanAt p i).f.toNat ((spanAt p i).t - (spanAt p i).f + 1).toNat
theorem hitTo_up {p : P} {xs : List Int} {f j : Nat} (h : hitTo p xs f j = true) : ∀ {n : Nat}, j ≤ n → hitTo p xs f n = true
  | 0, hn => by obtain rfl : j = 0 := by omega
                exact h
  | n + 1, hn => by
    by_cases he : j = n + 1
    · subst he; exact h
    · rw [hitTo, hitTo_up h (n := n) (by omega), Bool.true_or]
theorem right_span {p : P} (h : Right p) {i : Nat} (hi : i < p.spans.length) : ∃ f t : Nat, (spanAt p i).f = (f : Int) ∧ (spanAt p i).t = (t : Int) ∧ f ≤ t ∧ t + 1 < p.chunks.length ∧ 0 ≤ (spanAt p i).c ∧ (spanAt p i).c ≤ 9 := by
  have := h.spans i hi
  unfold spanFit at this
  simp only [Bool.and_eq_true, inR_iff] at this
  obtain ⟨⟨h1, h2⟩, ⟨h3, h4⟩, h5, h6⟩ := this
  exact ⟨(spanAt p i).f.toNat, (spanAt p i).t.toNat, by omega, by omega, by omega, by omega, h5, h6⟩
set_option maxRecDepth 100000 in
set_option maxHeartbeats 3200000 in
theorem impl_span {p : P} {r c s t v : Value} {xs : List Int} {w : World} (h : PRow w p r c s t) (hv : Row w v 1 xs.length (ints xs)) (hR : Right p) (hx : xs.length = p.rules.length) {f u : Nat} (hfu : f ≤ u) (hu : u + 1 < p.chunks.length) (cc : Int) :
    Calls Try.prog 125 #[pv p.ind r c s t, v, .agg #[.int .i64 (f : Int), .int .i64 (u : Int), .int .i64 cc]] w fun e w' => e = .returned (.bool (hitTo p xs f (u - f + 1))) ∧ Below w.heap.size w w' := by
  obtain ⟨⟨A1, m1, rfl⟩, ⟨A2, m2, rfl⟩, ⟨A3, m3, rfl⟩, ⟨A4, m4, rfl⟩⟩ := h.lits
  obtain ⟨A, c1, e1, -, nc, ncc, cmc, ac⟩ := h.chunks
  injection e1 with ea el ec
  subst ea ec
  clear el
  obtain ⟨b, off, rfl, hb, hc⟩ := ac (by omega)
  obtain ⟨Av, cv, rfl, -⟩ := id hv
  clear ac
  have hBB := below2 w (.cells #[.int .i64 p.ind, .slice A1 p.rules.length m1, .slice (some ⟨b, off, none⟩) p.chunks.length m2, .slice A3 p.spans.length m3, .slice A4 p.ties.length m4] 35) (.cells #[.int .i64 (f : Int), .int .i64 (u : Int), .int .i64 cc] 98)
  have hT := two w (.cells #[.int .i64 p.ind, .slice A1 p.rules.length m1, .slice (some ⟨b, off, none⟩) p.chunks.length m2, .slice A3 p.spans.length m3, .slice A4 p.ties.length m4] 35) (.cells #[.int .i64 (f : Int), .int .i64 (u : Int), .int .i64 cc] 98)
  replace h := Lib.hid h
  replace hv := Lib.hid hv
  replace hR := Lib.hid hR
  replace hx := Lib.hid hx
  replace hBB := Lib.hid hBB
  replace hT := Lib.hid hT
  go_enter Try.func125, Try.ntmps125
  go_wp2
  go_loopw [7] (fun i wr => ∃ k : Nat, f ≤ k ∧ k ≤ u + 1 ∧ i = .int .i64 k ∧ Hid (hitTo p xs f (k - f) = false) ∧ Below w.heap.size w wr ∧ Hid (wr.heap[w.heap.size]? = some (.cells #[.int .i64 p.ind, .slice A1 p.rules.length m1, .slice (some ⟨b, off, none⟩) p.chunks.length m2, .slice A3 p.spans.length m3, .slice A4 p.ties.length m4] 35 (0, 0))) ∧ Hid (wr.heap[w.heap.size + 1]? = some (.cells #[.int .i64 (f : Int), .int .i64 (u : Int), .int .i64 cc] 98 (0, 0)))) (fun i _ => u + 1 - (intOf i).toNat)
  case atStart => exact ⟨f, by omega, by omega, rfl, Lib.hid (by rw [Nat.sub_self]; rfl), hBB.out, Lib.hid hT.out.1, Lib.hid hT.out.2.1⟩
  case round =>
    clear hBB hT
    obtain ⟨k, hfk, hk, rfl, hr, hbw, hbx, hby⟩ := hrel
    have hs0 := blk_lt hbx.out
    have hs1 := blk_lt hby.out
    have hsz := hbw.size
    obtain ⟨x0, x1, x2, x3, x4⟩ := blk5 hbx.out
    obtain ⟨y0, y1, y2⟩ := blk3 hby.out
    clear y0 y2
    by_cases hle : k ≤ u
    · have d1 : decide (k ≤ u) = true := by simp; omega
      have hlt : k < p.chunks.length := by omega
      have hku := Lib.hid hle
      obtain ⟨c0, c1, c2, c3, c4⟩ := Chunk.cells_ (fun j u hu => (cells_of hbw b _ hb).trans (hc j u hu)) hlt
      obtain ⟨a, ea, eal, -⟩ := right_split hR.out (i := k) (by omega)
      have hsp := impl_splits (h.out.below hbw) (hv.out.below hbw) hlt ea (by rw [hx.out]; exact eal)
      rw [chunkAt_eq hlt] at ea
      rw [ea] at c1
      have d2 : decide (a < xs.length) = true := by have := hx.out; simp; omega
      have z1 : b < wr.heap.size := by omega
      have i0 : (0 : Int) ≤ (k : Int) := by omega
      have i1 : (k : Int) < (p.chunks.length : Int) := by omega
      have hon : Hid (hitTo p xs f (k + 1 - f) = splitAt p xs k) := Lib.hid (by rw [show k + 1 - f = (k - f) + 1 by omega, hitTo, hr.out, Bool.false_or, show f + (k - f) = k by omega])
      have hkd : Hid (k + 1 - f ≤ u - f + 1) := Lib.hid (by omega)
      clear c0 c2 c3 c4 ea eal hle
      obtain ⟨bb, hbb⟩ : ∃ b, splitAt p xs k = b := ⟨_, rfl⟩
      rw [hbb] at hsp hon
      replace hsp := Lib.hid hsp
      clear hbb
      go_wp2_with fail
      refine hsp.out.mono ?_
      rintro e w1 ⟨rfl, bs⟩
      replace hbw := hbw.trans (bs.mono hsz)
      replace hbx := Lib.hid (blk_below hbx.out bs)
      replace hby := Lib.hid (blk_below hby.out bs)
      clear bs hsp x0 x1 x2 x3 x4 y1 c1 hs0 hs1 z1
      cases bb
      · go_wp2
        go_roundw
        case rel => exact ⟨k + 1, by omega, by have := hku.out; omega, by go_num, hon, hbw, hbx, hby⟩
        case measure => simp [intOf]; have := hku.out; omega
      · have hyes := Lib.hid (hitTo_up hon.out hkd.out)
        go_wp2
        go_ret
        exact ⟨by rw [hyes.out]; rfl, hbw⟩
    · have d1 : decide (k ≤ u) = false := by simp; omega
      have hno : Hid (hitTo p xs f (u - f + 1) = false) := Lib.hid (by have := hr.out; rwa [show k - f = u - f + 1 by omega] at this)
      clear hle
      go_wp2
      go_ret
      exact ⟨by rw [hno.out]; rfl, hbw⟩
end Go.Proofs.Ytlakellmdcdaaaa.Pc

/-
  The contracts of PieceOk and of what it calls.
  Conditions: the piece reads as a piece.
-/
import Derived.Test.YtlakellmdcdaaaaPc3
namespace Go.Proofs.Ytlakellmdcdaaaa.Pc
open Go.RowKit Go.Proofs.Ytlakellmdcdaaaa.Row Go.Proofs.Ytlakellmdcdaaaa.Mem Go.Proofs.Ytlakellmdcdaaaa.Mix Go.Proofs.Ytlakellmdcdaaaa.Recs Go.Proofs.Ytlakellmdcdaaaa.Owns Go.Proofs.Ytlakellmdcdaaaa.Blocks Go.Proofs.Ytlakellmdcdaaaa.Piece Go.Proofs.Ytlakellmdcdaaaa.All Go.Proofs.Ytlakellmdcdaaaa.Ints
theorem below_drewN {B : Nat} {a w : World} (h : Below B a w) (n : Nat) : Below B a (w.drewN n) := ⟨h.os, h.tape, h.output, h.size, h.block⟩
def ruleFit (p : P) (i : Nat) : Bool := inR (ruleAt p i).v 2 3 && inR (ruleAt p i).c 0 9
def rulesOk (p : P) : Bool := allTo (ruleFit p) p.rules.length && decide (p.rules.length ≤ 8)
def byteOk (s : ByteArray) (i : Nat) : Bool := decide (32 ≤ (s.data.toList.getD i 0).toNat) && decide ((s.data.toList.getD i 0).toNat ≤ 126)
def plain (s : ByteArray) : Bool := allTo (byteOk s) s.size
theorem byteOk_at {s : ByteArray} {i : Nat} (h : i < s.size) : byteOk s i = (decide (32 ≤ s[i].toNat) && decide (s[i].toNat ≤ 126)) := by
  have : s.data.toList.getD i 0 = s[i] := by rw [List.getD, List.getElem?_eq_getElem (by simpa using h)]; rfl
  unfold byteOk; rw [this]
def splitFit (p : P) (c : Chunk.T) : Bool := inR c.r 0 ((p.rules.length : Int) - 1) && (inR c.n 0 40 && inR c.f 1 (wrap64 ((ruleAt p c.r.toNat).v - 1)))
def chunkAt (p : P) (i : Nat) : Chunk.T := p.chunks.getD i default
theorem chunkAt_eq {p : P} {i : Nat} (h : i < p.chunks.length) : chunkAt p i = p.chunks[i] := getD_at h _
def chunkFit (p : P) (i : Nat) : Bool := plain (chunkAt p i).t && (!decide (i + 1 < p.chunks.length) || splitFit p (chunkAt p i))
def zeroSplit (c : Chunk.T) : Bool := c.r == 0 && (c.f == 0 && (c.s == false && c.n == 0))
def lastFit (p : P) : Bool := zeroSplit (chunkAt p (p.chunks.length - 1))
def chunksOk (p : P) : Bool := inR (p.chunks.length : Int) 1 80 && (allTo (chunkFit p) p.chunks.length && lastFit p)
def spanAt (p : P) (i : Nat) : Span.T := p.spans.getD i default
theorem spanAt_eq {p : P} {i : Nat} (h : i < p.spans.length) : spanAt p i = p.spans[i] := getD_at h _
def spanFit (p : P) (i : Nat) : Bool := inR (spanAt p i).t 0 ((p.chunks.length : Int) - 2) && (inR (spanAt p i).f 0 (spanAt p i).t && inR (spanAt p i).c 0 9)
def tieFit (p : P) (i : Nat) : Bool := inR (tieAt p i).k 0 ((p.rules.length : Int) - 1) && (inR (tieAt p i).u 0 ((p.rules.length : Int) - 1) && !((tieAt p i).k == (tieAt p i).u))
def sizesOk (p : P) : Bool := decide (p.spans.length ≤ 40) && decide (p.ties.length ≤ 20)
def pieceOk (p : P) : Bool := inR p.ind 0 60 && (rulesOk p && (chunksOk p && (sizesOk p && (allTo (spanFit p) p.spans.length && allTo (tieFit p) p.ties.length))))
set_option maxHeartbeats 800000 in
theorem impl_plain (s : ByteArray) (hs : s.size ≤ 1099511627776) (w : World) : Calls Try.prog 109 #[.string s] w fun e w' => e = .returned (.bool (plain s)) ∧ w = w' := by
  go_enter Try.func109, Try.ntmps109
  go_wp2
  go_loop [3] (fun i => ∃ k : Nat, k ≤ s.size ∧ i = .int .i64 k ∧ Hid (allTo (byteOk s) k = true)) (fun i => s.size - (intOf i).toNat)
  case atStart => exact ⟨0, by omega, rfl, Lib.hid rfl⟩
  case round =>
    obtain ⟨k, hk, rfl, hr⟩ := hrel
    by_cases hlt : k < s.size
    · have hat := byteOk_at hlt
      by_cases h1 : 32 ≤ s[k].toNat
      · have d1 : decide ((s[k].toNat : Int) < 32) = false := by simp; omega
        have d1' : decide ((32 : Int) ≤ (s[k].toNat : Int)) = true := by simp; omega
        by_cases h2 : s[k].toNat ≤ 126
        · have d2 : decide ((126 : Int) < (s[k].toNat : Int)) = false := by simp; omega
          have d2' : decide ((s[k].toNat : Int) ≤ 126) = true := by simp; omega
          have hon := Lib.hid (allTo_on hr.out (show byteOk s k = true by rw [hat, decide_eq_true h1, decide_eq_true h2]; rfl))
          clear hat
          go_wp2
          go_round
          case rel => exact ⟨k + 1, by omega, by go_num, hon⟩
          case measure => simp [intOf]; omega
        · have d2 : decide ((126 : Int) < (s[k].toNat : Int)) = true := by simp; omega
          have d2' : decide ((s[k].toNat : Int) ≤ 126) = false := by simp; omega
          have hno := Lib.hid (show plain s = false from allTo_off (k := k) (by rw [hat, decide_eq_false h2, Bool.and_false]) _ hlt)
          clear hat
          go_wp2
          go_ret
          exact ⟨by rw [hno.out]; rfl, rfl⟩
      · have d1 : decide ((s[k].toNat : Int) < 32) = true := by simp; omega
        have d1' : decide ((32 : Int) ≤ (s[k].toNat : Int)) = false := by simp; omega
        have hno := Lib.hid (show plain s = false from allTo_off (k := k) (by rw [hat, decide_eq_false h1, Bool.false_and]) _ hlt)
        clear hat
        go_wp2
        go_ret
        exact ⟨by rw [hno.out]; rfl, rfl⟩
    · have hyes := Lib.hid (show plain s = true by have := hr.out; rwa [show k = s.size by omega] at this)
      go_wp2
      go_ret
      exact ⟨by rw [hyes.out]; rfl, rfl⟩
set_option maxHeartbeats 800000 in
theorem spec_plain (s : ByteArray) (hs : s.size ≤ 1099511627776) (w : World) : Calls Try.prog 73 #[.string s] w fun e w' => e = .returned (.bool (plain s)) ∧ w = w' := by
  go_enter Try.func73, Try.ntmps73
  go_wp2
  go_loop [3] (fun i => ∃ k : Nat, k ≤ s.size ∧ i = .int .i64 k ∧ Hid (allTo (byteOk s) k = true)) (fun i => s.size - (intOf i).toNat)
  case atStart => exact ⟨0, by omega, rfl, Lib.hid rfl⟩
  case round =>
    obtain ⟨k, hk, rfl, hr⟩ := hrel
    by_cases hlt : k < s.size
    · have hat := byteOk_at hlt
      by_cases h1 : 32 ≤ s[k].toNat
      · have d1 : decide ((s[k].toNat : Int) < 32) = false := by simp; omega
        have d1' : decide ((32 : Int) ≤ (s[k].toNat : Int)) = true := by simp; omega
        by_cases h2 : s[k].toNat ≤ 126
        · have d2 : decide ((126 : Int) < (s[k].toNat : Int)) = false := by simp; omega
          have d2' : decide ((s[k].toNat : Int) ≤ 126) = true := by simp; omega
          have hon := Lib.hid (allTo_on hr.out (show byteOk s k = true by rw [hat, decide_eq_true h1, decide_eq_true h2]; rfl))
          clear hat
          go_wp2
          go_round
          case rel => exact ⟨k + 1, by omega, by go_num, hon⟩
          case measure => simp [intOf]; omega
        · have d2 : decide ((126 : Int) < (s[k].toNat : Int)) = true := by simp; omega
          have d2' : decide ((s[k].toNat : Int) ≤ 126) = false := by simp; omega
          have hno := Lib.hid (show plain s = false from allTo_off (k := k) (by rw [hat, decide_eq_false h2, Bool.and_false]) _ hlt)
          clear hat
          go_wp2
          go_ret
          exact ⟨by rw [hno.out]; rfl, rfl⟩
      · have d1 : decide ((s[k].toNat : Int) < 32) = true := by simp; omega
        have d1' : decide ((32 : Int) ≤ (s[k].toNat : Int)) = false := by simp; omega
        have hno := Lib.hid (show plain s = false from allTo_off (k := k) (by rw [hat, decide_eq_false h1, Bool.false_and]) _ hlt)
        clear hat
        go_wp2
        go_ret
        exact ⟨by rw [hno.out]; rfl, rfl⟩
    · have hyes := Lib.hid (show plain s = true by have := hr.out; rwa [show k = s.size by omega] at this)
      go_wp2
      go_ret
      exact ⟨by rw [hyes.out]; rfl, rfl⟩
set_option maxRecDepth 100000 in
set_option maxHeartbeats 1600000 in
theorem impl_rulesOk {p : P} {r c s t : Value} {w : World} (h : PRow w p r c s t) :
    Calls Try.prog 75 #[pv p.ind r c s t] w fun e w' => e = .returned (.bool (rulesOk p)) ∧ Below w.heap.size w w' := by
  obtain ⟨⟨A1, m1, rfl⟩, ⟨A2, m2, rfl⟩, ⟨A3, m3, rfl⟩, ⟨A4, m4, rfl⟩⟩ := h.lits
  obtain ⟨A, c1, e1, -, hn, hnc, hcm, ha⟩ := h.rules
  injection e1 with ea el ec
  subst ea ec
  clear el
  clear h
  go_enter Try.func75, Try.ntmps75
  go_wp2
  go_loopw [8] (fun i wr => ∃ k : Nat, k ≤ p.rules.length ∧ i = .int .i64 k ∧ Hid (allTo (ruleFit p) k = true) ∧ Below w.heap.size w wr ∧ Hid (wr.heap[w.heap.size]? = some (.cells #[.int .i64 p.ind, .slice A1 p.rules.length m1, .slice A2 p.chunks.length m2, .slice A3 p.spans.length m3, .slice A4 p.ties.length m4] 35 (0, 0)))) (fun i _ => p.rules.length - (intOf i).toNat)
  case atStart => exact ⟨0, by omega, rfl, Lib.hid rfl, (Below.refl _ _).alloc (Nat.le_refl _) _, Lib.hid (heap_alloc_new w _)⟩
  case round =>
    obtain ⟨k, hk, rfl, hr, hbw, hbx⟩ := hrel
    have hs := hbw.size
    have hs0 := blk_lt hbx.out
    by_cases hlt : k < p.rules.length
    · obtain ⟨b, off, rfl, hb, hc⟩ := ha (by omega)
      obtain ⟨c0, c1⟩ := Rule.cells_ (fun j u hu => (cells_of hbw b _ hb).trans (hc j u hu)) hlt
      have z3 : b ≠ wr.heap.size := by omega
      clear hc ha
      have hat := Lib.hid (show ruleFit p k = (inR p.rules[k].v 2 3 && inR p.rules[k].c 0 9) by unfold ruleFit; rw [ruleAt_eq hlt])
      have hbn := Lib.hid (hbw.alloc hs (.cells #[.int .i64 p.rules[k].v, .int .i64 p.rules[k].c] 80))
      have hbxn := Lib.hid ((Below.heap_alloc wr (.cells #[.int .i64 p.rules[k].v, .int .i64 p.rules[k].c] 80) _ hs0).trans hbx.out)
      clear hbw hs hs0 hbx
      cases h1 : inR p.rules[k].v 2 3
      · have hno := Lib.hid (show rulesOk p = false by unfold rulesOk; rw [allTo_off (k := k) (by rw [hat.out, h1]; rfl) _ hlt, Bool.false_and])
        go_wp2_with (go_at_call 67; refine (impl_inRange _ _ _ _).mono ?_; rintro e w1 ⟨rfl, rfl⟩)
        go_ret
        exact ⟨by rw [hno.out]; rfl, hbn.out⟩
      · cases h2 : inR p.rules[k].c 0 9
        · have hno := Lib.hid (show rulesOk p = false by unfold rulesOk; rw [allTo_off (k := k) (by rw [hat.out, h1, h2]; rfl) _ hlt, Bool.false_and])
          go_wp2_with (go_at_call 67; refine (impl_inRange _ _ _ _).mono ?_; rintro e w1 ⟨rfl, rfl⟩)
          go_ret
          exact ⟨by rw [hno.out]; rfl, hbn.out⟩
        · have hon := Lib.hid (allTo_on hr.out (show ruleFit p k = true by rw [hat.out, h1, h2]; rfl))
          go_wp2_with (go_at_call 67; refine (impl_inRange _ _ _ _).mono ?_; rintro e w1 ⟨rfl, rfl⟩)
          go_roundw
          case rel => exact ⟨k + 1, by omega, by go_num, hon, hbn.out, hbxn⟩
          case measure => simp [intOf]; omega
    · obtain ⟨x0, x1, x2, x3, x4⟩ := blk5 hbx.out
      have hall := Lib.hid (show allTo (ruleFit p) p.rules.length = true by have := hr.out; rwa [show k = p.rules.length by omega] at this)
      by_cases h8 : p.rules.length ≤ 8
      · have hyes := Lib.hid (show rulesOk p = true by unfold rulesOk; rw [hall.out, decide_eq_true h8]; rfl)
        have d8 : decide ((p.rules.length : Int) ≤ 8) = true := by simp; omega
        go_wp2
        go_ret
        exact ⟨by rw [hyes.out]; rfl, hbw⟩
      · have hno := Lib.hid (show rulesOk p = false by unfold rulesOk; rw [hall.out, decide_eq_false h8]; rfl)
        have d8 : decide ((p.rules.length : Int) ≤ 8) = false := by simp; omega
        go_wp2
        go_ret
        exact ⟨by rw [hno.out]; rfl, hbw⟩
set_option maxRecDepth 100000 in
set_option maxHeartbeats 3200000 in
theorem impl_split {p : P} {r c s t : Value} {w : World} (h : PRow w p r c s t) (x : Chunk.T) :
    Calls Try.prog 110 #[pv p.ind r c s t, (.agg #[.int .i64 x.r, .int .i64 x.f, .bool x.s, .int .i64 x.n])] w fun e w' => e = .returned (.bool (splitFit p x)) ∧ Below w.heap.size w w' := by
  obtain ⟨⟨A1, m1, rfl⟩, ⟨A2, m2, rfl⟩, ⟨A3, m3, rfl⟩, ⟨A4, m4, rfl⟩⟩ := h.lits
  obtain ⟨A, c1, e1, -, hn, hnc, hcm, ha⟩ := h.rules
  injection e1 with ea el ec
  subst ea ec
  clear el
  clear h
  obtain ⟨tx, xr, xf, xs, xn⟩ := x
  have hsp : Hid (∀ b, splitFit p ⟨tx, xr, xf, xs, xn⟩ = b ↔ (inR xr 0 ((p.rules.length : Int) - 1) && (inR xn 0 40 && inR xf 1 (wrap64 ((ruleAt p xr.toNat).v - 1)))) = b) := Lib.hid (fun b => Iff.rfl)
  have hB := Lib.hid (below2 w (.cells #[.int .i64 p.ind, .slice A1 p.rules.length m1, .slice A2 p.chunks.length m2, .slice A3 p.spans.length m3, .slice A4 p.ties.length m4] 35) (.cells #[.int .i64 xr, .int .i64 xf, .bool xs, .int .i64 xn] 93))
  cases h1 : inR xr 0 ((p.rules.length : Int) - 1)
  · have hno := Lib.hid ((hsp.out false).2 (by rw [h1]; rfl))
    clear ha hsp
    go_enter Try.func110, Try.ntmps110
    go_wp2_with (go_at_call 67; refine (impl_inRange _ _ _ _).mono ?_; rintro e w1 ⟨rfl, rfl⟩)
    go_ret
    exact ⟨by rw [hno.out]; rfl, hB.out⟩
  · cases h2 : inR xn 0 40
    · have hno := Lib.hid ((hsp.out false).2 (by rw [h1, h2]; rfl))
      clear ha hsp
      go_enter Try.func110, Try.ntmps110
      go_wp2_with (go_at_call 67; refine (impl_inRange _ _ _ _).mono ?_; rintro e w1 ⟨rfl, rfl⟩)
      go_ret
      exact ⟨by rw [hno.out]; rfl, hB.out⟩
    · obtain ⟨i1, j1⟩ := inR_iff.1 h1
      obtain ⟨a, rfl⟩ : ∃ a : Nat, xr = (a : Int) := ⟨xr.toNat, by omega⟩
      have hlt : a < p.rules.length := by omega
      obtain ⟨b, off, rfl, hb, hc⟩ := ha (by omega)
      obtain ⟨c0, c1⟩ := Rule.cells_ hc hlt
      have hv := Lib.hid ((hsp.out _).2 rfl)
      rw [h1, h2, Int.toNat_natCast, ruleAt_eq hlt] at hv
      have hcall := Lib.hid (impl_inRange xf 1 (wrap64 (p.rules[a].v - 1)))
      have hwr : IntKind.i64.wrap (p.rules[a].v - 1) = wrap64 (p.rules[a].v - 1) := wrap_eq _
      have z1 : b ≠ w.heap.size := by omega
      have z2 : b < w.heap.size + 1 := by omega
      have i2 : (a : Int) < (p.rules.length : Int) := by omega
      have i3 : (0 : Int) ≤ (a : Int) := by omega
      clear hc ha hsp i1 j1
      generalize inR xf 1 (wrap64 (p.rules[a].v - 1)) = q at *
      go_enter Try.func110, Try.ntmps110
      go_wp2_with (go_at_call 67; refine (impl_inRange _ _ _ _).mono ?_; rintro e w1 ⟨rfl, rfl⟩)
      refine wp_region_below [(0, true), (1, true), (2, true), (3, true), (4, true), (5, true), (6, true), (7, true), (8, true), (9, true), (10, false), (11, false)] (by kernel_rfl) (by kernel_rfl) (fun d _ _ _ _ h => by cases d <;> exact h) ?_
      repeat
       (refine mix_still rfl (by rfl) ?_
        apply Exists.intro
        refine ⟨fun w' hS => ?_, ?_⟩
        · (have hS' := cells_of hS; clear hS; go_simp; (try go_bits); first | with_reducible rfl | (refine (if_pos ?_).trans ?_; omega; with_reducible rfl))
        (go_simp; (try go_bits)))
      refine mix_loud rfl (fun K hK => ?_)
      (go_simp; (try go_bits))
      refine (hcall.out _).mono ?_
      rintro _ w0 ⟨rfl, rfl⟩
      refine hK _ _ (no_need (by kernel_rfl)) ?_
      clear hK K
      go_simp
      refine mix_loud rfl (fun K hK => ?_)
      (go_simp; (try go_bits))
      refine hK _ _ (no_need (by kernel_rfl)) ?_
      clear hK K
      try (go_simp; (try go_bits))
      refine mix_nil ?_
      go_wp2
      go_ret
      refine ⟨by rw [hv.out]; cases q <;> rfl, ?_⟩
      first | exact hB.out.drew | exact hB.out | exact below_drewN hB.out _
theorem quiet_add_left {P : Program} {f : FuncId} {args : Array Value} {w : World} {a n : Nat} {v : Value}
    (h : Calls P f args (w.drewN (a + n)) fun e w' => e = .returned v ∧ w.drewN (a + n) = w') :
    Calls P f args (w.drewN (a + n)) fun e w'' => e = .returned v ∧ ∃ m, w'' = w.drewN (a + m) :=
  h.mono fun _ _ ⟨he, hm⟩ => ⟨he, n, hm.symm⟩
theorem quiet_left {P : Program} {f : FuncId} {args : Array Value} {w : World} {n : Nat} {v : Value}
    (h : Calls P f args (w.drewN n) fun e w' => e = .returned v ∧ w.drewN n = w') : Calls P f args (w.drewN n) fun e w'' => e = .returned v ∧ ∃ m, w'' = w.drewN m :=
  h.mono fun _ _ ⟨he, hm⟩ => ⟨he, n, hm.symm⟩
theorem quiet_in (n a b : Int) (w : World) : Calls Try.prog 62 #[.int .i64 n, .int .i64 a, .int .i64 b] w fun e w' => e = .returned (.bool (inR n a b)) ∧ w' = w :=
  (spec_inRange n a b w).mono fun _ _ h => ⟨h.1, h.2.symm⟩
set_option maxRecDepth 100000 in
set_option maxHeartbeats 3200000 in
theorem spec_split {p : P} {r c s t : Value} {w : World} (h : PRow w p r c s t) (x : Chunk.T) :
    Calls Try.prog 74 #[pv p.ind r c s t, (.agg #[.int .i64 x.r, .int .i64 x.f, .bool x.s, .int .i64 x.n])] w fun e w' => e = .returned (.bool (splitFit p x)) ∧ Below w.heap.size w w' := by
  obtain ⟨⟨A1, m1, rfl⟩, ⟨A2, m2, rfl⟩, ⟨A3, m3, rfl⟩, ⟨A4, m4, rfl⟩⟩ := h.lits
  obtain ⟨A, c1, e1, -, hn, hnc, hcm, ha⟩ := h.rules
  injection e1 with ea el ec
  subst ea ec
  clear el
  clear h
  obtain ⟨tx, xr, xf, xs, xn⟩ := x
  have hsp : Hid (∀ b, splitFit p ⟨tx, xr, xf, xs, xn⟩ = b ↔ (inR xr 0 ((p.rules.length : Int) - 1) && (inR xn 0 40 && inR xf 1 (wrap64 ((ruleAt p xr.toNat).v - 1)))) = b) := Lib.hid (fun b => Iff.rfl)
  have hB := Lib.hid (below2 w (.cells #[.int .i64 p.ind, .slice A1 p.rules.length m1, .slice A2 p.chunks.length m2, .slice A3 p.spans.length m3, .slice A4 p.ties.length m4] 35) (.cells #[.int .i64 xr, .int .i64 xf, .bool xs, .int .i64 xn] 93))
  cases h1 : inR xr 0 ((p.rules.length : Int) - 1)
  · have hno := Lib.hid ((hsp.out false).2 (by rw [h1]; rfl))
    have hwn : IntKind.i64.wrap ((p.rules.length : Int) - 1) = (p.rules.length : Int) - 1 := IntWalk.i64_in _ (by omega)
    have hc := Lib.hid (fun (W : World) => quiet_in xr 0 ((p.rules.length : Int) - 1) W)
    rw [h1] at hc
    clear ha hsp
    go_enter Try.func74, Try.ntmps74
    go_wp2
    go_quiet ((go_at_call 62; exact Calls.quiet_of_same (hc.out _)))
    go_wp2
    go_ret
    refine ⟨by rw [hno.out]; rfl, ?_⟩
    first | exact hB.out.drew | exact hB.out | exact below_drewN hB.out _
  · obtain ⟨i1, j1⟩ := inR_iff.1 h1
    obtain ⟨a, rfl⟩ : ∃ a : Nat, xr = (a : Int) := ⟨xr.toNat, by omega⟩
    have hlt : a < p.rules.length := by omega
    obtain ⟨b, off, rfl, hb, hc⟩ := ha (by omega)
    obtain ⟨c0, c1⟩ := Rule.cells_ hc hlt
    have hv := Lib.hid ((hsp.out _).2 rfl)
    rw [h1, Int.toNat_natCast, ruleAt_eq hlt] at hv
    have hwr : IntKind.i64.wrap (p.rules[a].v - 1) = wrap64 (p.rules[a].v - 1) := wrap_eq _
    have hwn : IntKind.i64.wrap ((p.rules.length : Int) - 1) = (p.rules.length : Int) - 1 := IntWalk.i64_in _ (by omega)
    have z1 : b ≠ w.heap.size := by omega
    have z2 : b < w.heap.size + 1 := by omega
    have i2 : (a : Int) < (p.rules.length : Int) := by omega
    have i3 : (0 : Int) ≤ (a : Int) := by omega
    clear hc ha hsp i1 j1
    cases h3 : inR xf 1 (wrap64 (p.rules[a].v - 1))
    all_goals
      cases h2 : inR xn 0 40
      all_goals
        rw [h3, h2] at hv
        go_enter Try.func74, Try.ntmps74
        go_wp2
        go_quiet ((go_at_call 62; (first | exact Calls.quiet_of_same (quiet_in _ _ _ _) | exact quiet_left (spec_inRange _ _ _ _) | exact quiet_add_left (spec_inRange _ _ _ _))))
        go_wp2
        go_ret
        refine ⟨by rw [hv.out]; rfl, ?_⟩
        first | exact hB.out.drew | exact hB.out | exact below_drewN hB.out _
end Go.Proofs.Ytlakellmdcdaaaa.Pc
/-
  The contract of impl.chunksOk.
  Conditions: the piece reads as a piece, its texts are short.
-/
namespace Go.Proofs.Ytlakellmdcdaaaa.Pc
open Go.RowKit Go.Proofs.Ytlakellmdcdaaaa.Row Go.Proofs.Ytlakellmdcdaaaa.Mem Go.Proofs.Ytlakellmdcdaaaa.Mix Go.Proofs.Ytlakellmdcdaaaa.Recs Go.Proofs.Ytlakellmdcdaaaa.Owns Go.Proofs.Ytlakellmdcdaaaa.Blocks Go.Proofs.Ytlakellmdcdaaaa.Piece Go.Proofs.Ytlakellmdcdaaaa.All Go.Proofs.Ytlakellmdcdaaaa.Ints
theorem chunksOk_no {p : P} {k : Nat} (hk : k < p.chunks.length) (h : chunkFit p k = false) : chunksOk p = false := by
  unfold chunksOk; rw [allTo_off h _ hk]; simp
set_option maxRecDepth 100000 in
set_option maxHeartbeats 3200000 in
theorem impl_chunksOk {p : P} {r c s t : Value} {w : World} (h : PRow w p r c s t) (hs : ∀ x ∈ p.chunks, x.t.size ≤ 1099511627776) :
    Calls Try.prog 76 #[pv p.ind r c s t] w fun e w' => e = .returned (.bool (chunksOk p)) ∧ Below w.heap.size w w' := by
  obtain ⟨⟨A1, m1, rfl⟩, ⟨A2, m2, rfl⟩, ⟨A3, m3, rfl⟩, ⟨A4, m4, rfl⟩⟩ := h.lits
  obtain ⟨A, c1, e1, -, hn, hnc, hcm, ha⟩ := h.chunks
  injection e1 with ea el ec
  subst ea ec
  clear el
  have hb0 := (Below.refl w.heap.size w).alloc (Nat.le_refl _) (.cells #[.int .i64 p.ind, .slice A1 p.rules.length m1, .slice A2 p.chunks.length m2, .slice A3 p.spans.length m3, .slice A4 p.ties.length m4] 35)
  have hbx0 := heap_alloc_new w (.cells #[.int .i64 p.ind, .slice A1 p.rules.length m1, .slice A2 p.chunks.length m2, .slice A3 p.spans.length m3, .slice A4 p.ties.length m4] 35)
  replace h := Lib.hid h
  replace hs := Lib.hid hs
  replace hb0 := Lib.hid hb0
  cases h0 : inR (p.chunks.length : Int) 1 80
  · have hno := Lib.hid (show chunksOk p = false by unfold chunksOk; rw [h0]; rfl)
    clear ha hbx0
    go_enter Try.func76, Try.ntmps76
    go_wp2_with (go_at_call 67; refine (impl_inRange _ _ _ _).mono ?_; rintro e w1 ⟨rfl, rfl⟩)
    go_ret
    exact ⟨by rw [hno.out]; rfl, hb0.out⟩
  · obtain ⟨n0, n80⟩ := inR_iff.1 h0
    have hall : Hid (∀ b, (allTo (chunkFit p) p.chunks.length && lastFit p) = b → chunksOk p = b) := Lib.hid (fun b e => by unfold chunksOk; rw [h0, e]; rfl)
    replace hbx0 := Lib.hid hbx0
    go_enter Try.func76, Try.ntmps76
    go_wp2_with (go_at_call 67; refine (impl_inRange _ _ _ _).mono ?_; rintro e w1 ⟨rfl, rfl⟩)
    go_loopw [4, 15] (fun _ i wr => ∃ k : Nat, k ≤ p.chunks.length ∧ i = .int .i64 k ∧ Hid (allTo (chunkFit p) k = true) ∧ Below w.heap.size w wr ∧ Hid (wr.heap[w.heap.size]? = some (.cells #[.int .i64 p.ind, .slice A1 p.rules.length m1, .slice A2 p.chunks.length m2, .slice A3 p.spans.length m3, .slice A4 p.ties.length m4] 35 (0, 0)))) (fun _ i _ => p.chunks.length - (intOf i).toNat)
    case atStart => exact ⟨0, by omega, rfl, Lib.hid rfl, hb0.out, hbx0⟩
    case round =>
      clear hbx0
      obtain ⟨k, hk, rfl, hr, hbw, hbx⟩ := hrel
      have hs0 := blk_lt hbx.out
      have hsz := hbw.size
      obtain ⟨x0, x1, x2, x3, x4⟩ := blk5 hbx.out
      by_cases hlt : k < p.chunks.length
      · obtain ⟨b, off, rfl, hb, hc⟩ := ha (by omega)
        obtain ⟨c0, c1, c2, c3, c4⟩ := Chunk.cells_ (fun j u hu => (cells_of hbw b _ hb).trans (hc j u hu)) hlt
        have z3 : b ≠ wr.heap.size := by omega
        have hst := hs.out _ (List.getElem_mem hlt)
        have hpl := Lib.hid (fun (W : World) => impl_plain p.chunks[k].t hst W)
        have hat := Lib.hid (show chunkFit p k = (plain p.chunks[k].t && (!decide (k + 1 < p.chunks.length) || splitFit p p.chunks[k])) by unfold chunkFit; rw [chunkAt_eq hlt])
        have hbn := Lib.hid (hbw.alloc hsz (.cells p.chunks[k].cells.toArray 95))
        have hbxn := Lib.hid ((Below.heap_alloc wr (.cells p.chunks[k].cells.toArray 95) _ hs0).trans hbx.out)
        have hsp := Lib.hid (impl_split (h.out.below (hbw.alloc hsz (.cells p.chunks[k].cells.toArray 95))) p.chunks[k])
        unfold Chunk.T.cells at hbn hbxn hsp
        clear hc ha hst
        cases h1 : plain p.chunks[k].t
        · rw [h1] at hpl
          have hno := Lib.hid (chunksOk_no hlt (by rw [hat.out, h1]; rfl))
          clear h1
          go_wp2_with (go_at_call 109; refine (hpl.out _).mono ?_; rintro e w1 ⟨rfl, rfl⟩)
          go_ret
          exact ⟨by rw [hno.out]; rfl, hbn.out⟩
        · rw [h1] at hpl
          by_cases hl : k + 1 < p.chunks.length
          · have d1 : decide ((k : Int) < (p.chunks.length : Int) - 1) = true := by simp; omega
            cases h2 : splitFit p p.chunks[k]
            · rw [h2] at hsp
              have hno := Lib.hid (chunksOk_no hlt (by rw [hat.out, h1, h2, decide_eq_true hl]; rfl))
              clear h1 h2
              go_wp2_with (first | (go_at_call 109; refine (hpl.out _).mono ?_; rintro e w1 ⟨rfl, rfl⟩) | (go_at_call 110; refine hsp.out.mono ?_; rintro e w1 ⟨rfl, hb2⟩))
              go_ret
              exact ⟨by rw [hno.out]; rfl, hbn.out.trans (hb2.mono hbn.out.size)⟩
            · rw [h2] at hsp
              have hon := Lib.hid (allTo_on hr.out (show chunkFit p k = true by rw [hat.out, h1, h2, decide_eq_true hl]; rfl))
              clear h1 h2
              go_wp2_with (first | (go_at_call 109; refine (hpl.out _).mono ?_; rintro e w1 ⟨rfl, rfl⟩) | (go_at_call 110; refine hsp.out.mono ?_; rintro e w1 ⟨rfl, hb2⟩))
              go_roundw
              case rel => exact ⟨k + 1, by omega, by go_num, hon, hbn.out.trans (hb2.mono hbn.out.size), Lib.hid (blk_below hbxn.out hb2)⟩
              case measure => simp [intOf]; omega
          · have d1 : decide ((k : Int) < (p.chunks.length : Int) - 1) = false := by simp; omega
            have hon := Lib.hid (allTo_on hr.out (show chunkFit p k = true by rw [hat.out, h1, decide_eq_false hl]; rfl))
            clear h1 hsp
            go_wp2_with (go_at_call 109; refine (hpl.out _).mono ?_; rintro e w1 ⟨rfl, rfl⟩)
            go_roundw
            case rel => exact ⟨k + 1, by omega, by go_num, hon, hbn.out, hbxn⟩
            case measure => simp [intOf]; omega
      · obtain ⟨m, hm⟩ : ∃ m, p.chunks.length = m + 1 := ⟨p.chunks.length - 1, by omega⟩
        have hml : m < p.chunks.length := by omega
        obtain ⟨b, off, rfl, hb, hc⟩ := ha (by omega)
        obtain ⟨c0, c1, c2, c3, c4⟩ := Chunk.cells_ (fun j u hu => (cells_of hbw b _ hb).trans (hc j u hu)) hml
        have hat : Hid (lastFit p = zeroSplit p.chunks[m]) := Lib.hid (by unfold lastFit; rw [hm, Nat.add_sub_cancel, chunkAt_eq hml])
        have hal : Hid (allTo (chunkFit p) p.chunks.length = true) := Lib.hid (by have := hr.out; rwa [show k = p.chunks.length by omega] at this)
        have hv := Lib.hid (hall.out (zeroSplit p.chunks[m]) (by rw [hal.out, hat.out]; rfl))
        have e1 : (p.chunks.length : Int) - 1 = (m : Int) := by omega
        have hmi : (m : Int) < (p.chunks.length : Int) := by omega
        have hkl : ¬ ((k : Int) < (p.chunks.length : Int)) := by omega
        replace hm := Lib.hid hm
        clear hc ha hr
        go_wp2
        all_goals
          go_ret
          exact ⟨by rw [hv.out]; simp_all [zeroSplit], hbw⟩
end Go.Proofs.Ytlakellmdcdaaaa.Pc

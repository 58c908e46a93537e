/-
  The contracts of impl.AllSplit and spec.AllSplit: each rule's last value, in a slice of the call's own.
  Conditions: the piece reads as a piece; 2^20 rules at most.
-/
import Derived.Test.YtlakellmdcdaaaaPc2
namespace Go.Proofs.Ytlakellmdcdaaaa.Pc
open Go.RowKit Go.Proofs.Ytlakellmdcdaaaa.Row Go.Proofs.Ytlakellmdcdaaaa.Mem Go.Proofs.Ytlakellmdcdaaaa.Mix Go.Proofs.Ytlakellmdcdaaaa.Recs Go.Proofs.Ytlakellmdcdaaaa.Owns Go.Proofs.Ytlakellmdcdaaaa.Blocks Go.Proofs.Ytlakellmdcdaaaa.Piece Go.Proofs.Ytlakellmdcdaaaa.All Go.Proofs.Ytlakellmdcdaaaa.Ints
def lasts (rs : List Rule.T) : List Int := rs.map fun r => wrap64 (r.v - 1)
def allSplit (p : P) : List Int := lasts p.rules
theorem allSplit_len (p : P) : (allSplit p).length = p.rules.length := by simp [allSplit, lasts]
theorem lasts_on {rs : List Rule.T} {k : Nat} (h : k < rs.length) : lasts (rs.take (k + 1)) = lasts (rs.take k) ++ [wrap64 (rs[k].v - 1)] := by
  unfold lasts; rw [List.take_succ_eq_append_getElem h, List.map_append]; rfl
theorem lasts_len (rs : List Rule.T) (k : Nat) : (lasts (rs.take k)).length ≤ k := by unfold lasts; rw [List.length_map, List.length_take]; omega
theorem ints_snoc (l : List Int) (x : Int) : ints l ++ [.int .i64 x] = ints (l ++ [x]) := by simp [ints]
theorem own_empty (w : World) (e : TypeId) (size : Nat) : (w.alloc (.cells #[] e)).ownsRow w.heap.size e size (.slice (some ⟨w.heap.size, 0, none⟩) 0 0) 0 [] :=
  ⟨by simp, .inr ⟨w.heap.size, 0, #[], rfl, Nat.le_refl _, heap_alloc_new w _, by omega, by simp [maxLen], by simp, by simp⟩⟩
set_option maxRecDepth 100000 in
set_option maxHeartbeats 1600000 in
theorem impl_AllSplit {p : P} {r c s t : Value} {w : World} (h : PRow w p r c s t) (hmx : p.rules.length ≤ 1048576) :
    Calls Try.prog 29 #[pv p.ind r c s t] w fun e w' => ∃ v', e = .returned v' ∧ w'.ownsRow w.heap.size 3 1 v' (allSplit p).length (ints (allSplit p)) ∧ Below w.heap.size w w' := by
  obtain ⟨⟨A1, m1, rfl⟩, ⟨A2, m2, rfl⟩, ⟨A3, m3, rfl⟩, ⟨A4, m4, rfl⟩⟩ := h.lits
  obtain ⟨A, c1, e1, -, hn, hnc, hcm, ha⟩ := h.rules
  injection e1 with ea el ec
  subst ea ec
  clear el h
  go_enter Try.func29, Try.ntmps29
  go_wp2
  go_loopw [3, 9] (fun o i wr => ∃ k : Nat, k ≤ p.rules.length ∧ i = .int .i64 k ∧ wr.ownsRow w.heap.size 3 1 o (lasts (p.rules.take k)).length (ints (lasts (p.rules.take k))) ∧ Below w.heap.size w wr) (fun _ i _ => p.rules.length - (intOf i).toNat)
  case atStart => exact ⟨0, by omega, rfl, ⟨by simp [lasts], .inl ⟨rfl, rfl⟩⟩, (Below.refl _ _).alloc (Nat.le_refl _) _⟩
  case round =>
    obtain ⟨k, hk, rfl, hown, hbw⟩ := hrel
    have hs := hbw.size
    by_cases hlt : k < p.rules.length
    · obtain ⟨b, off, rfl, hb, hc⟩ := ha (by omega)
      obtain ⟨c0, c1⟩ := Rule.cells_ (fun j u hu => (cells_of hbw b _ hb).trans (hc j u hu)) hlt
      clear hc ha
      have z3 : b ≠ wr.heap.size := by omega
      have hkl := lasts_len p.rules k
      have ho1 := own_below hown ((Below.refl wr.heap.size wr).alloc (Nat.le_refl _) (.cells #[.int .i64 p.rules[k].v, .int .i64 p.rules[k].c] 80))
      have hb1 := hbw.alloc hs (.cells #[.int .i64 p.rules[k].v, .int .i64 p.rules[k].c] 80)
      have hon := Lib.hid (lasts_on hlt)
      obtain ⟨v', w', hrun, hown', hb', -, -⟩ := append_at EI ho1 hb1 (wr.heap.size + 1) (by simp) [.int .i64 (wrap64 (p.rules[k].v - 1))] 1 rfl (by simp [Value.oneCell']) (by simp only [maxLen]; omega) (by omega)
      rw [ints_snoc, ← List.length_singleton (a := wrap64 (p.rules[k].v - 1)), ← List.length_append, ← hon.out] at hown'
      replace hown' := Lib.hid hown'
      replace hb' := Lib.hid hb'
      clear ho1 hb1 hown hbw
      go_wp2_with (at_builtin; refine wpList_append_run rfl rfl hrun ?_)
      go_roundw
      case rel => exact ⟨k + 1, by omega, by go_num, hown'.out, hb'.out⟩
      case measure => simp [intOf]; omega
    · obtain rfl : k = p.rules.length := by omega
      rw [List.take_length] at hown
      replace hown := Lib.hid hown
      go_wp2
      go_ret
      exact ⟨_, rfl, hown.out, hbw⟩
set_option maxRecDepth 100000 in
set_option maxHeartbeats 1600000 in
theorem spec_AllSplit {p : P} {r c s t : Value} {w : World} (h : PRow w p r c s t) (hmx : p.rules.length ≤ 1048576) :
    Calls Try.prog 28 #[pv p.ind r c s t] w fun e w' => ∃ v', e = .returned v' ∧ w'.ownsRow w.heap.size 3 1 v' (allSplit p).length (ints (allSplit p)) ∧ Below w.heap.size w w' := by
  obtain ⟨⟨A1, m1, rfl⟩, ⟨A2, m2, rfl⟩, ⟨A3, m3, rfl⟩, ⟨A4, m4, rfl⟩⟩ := h.lits
  obtain ⟨A, c1, e1, -, hn, hnc, hcm, ha⟩ := h.rules
  injection e1 with ea el ec
  subst ea ec
  clear el h
  go_enter Try.func28, Try.ntmps28
  go_wp2
  go_loopw [3, 4] (fun o i wr => ∃ k : Nat, k ≤ p.rules.length ∧ i = .int .i64 k ∧ wr.ownsRow w.heap.size 3 1 o (lasts (p.rules.take k)).length (ints (lasts (p.rules.take k))) ∧ Below w.heap.size w wr ∧ Hid (wr.heap[w.heap.size]? = some (.cells #[.int .i64 p.ind, .slice A1 p.rules.length m1, .slice A2 p.chunks.length m2, .slice A3 p.spans.length m3, .slice A4 p.ties.length m4] 35 (0, 0))) ∧ Hid (∀ q, o.ownBlock = some q → w.heap.size + 1 ≤ q)) (fun _ i _ => p.rules.length - (intOf i).toNat)
  case atStart =>
    have h1 := own_mono (own_empty (w.alloc (.cells #[.int .i64 p.ind, .slice A1 p.rules.length m1, .slice A2 p.chunks.length m2, .slice A3 p.spans.length m3, .slice A4 p.ties.length m4] 35)) 3 1) (base' := w.heap.size) (by simp)
    rw [show (w.alloc (.cells #[.int .i64 p.ind, .slice A1 p.rules.length m1, .slice A2 p.chunks.length m2, .slice A3 p.spans.length m3, .slice A4 p.ties.length m4] 35)).heap.size = w.heap.size + 1 by simp] at h1
    refine ⟨0, by omega, rfl, h1, below2 w _ _, Lib.hid (two w _ _).1, Lib.hid (fun q hq => ?_)⟩
    injection hq with hq
    simp at hq
    omega
  case round =>
    obtain ⟨k, hk, rfl, hown, hbw, hbx, hob⟩ := hrel
    have hs := hbw.size
    by_cases hlt : k < p.rules.length
    · have hs0 := blk_lt hbx.out
      obtain ⟨x0, x1, x2, x3, x4⟩ := blk5 hbx.out
      clear x0 x2 x3 x4
      obtain ⟨b, off, rfl, hb, hc⟩ := ha (by omega)
      obtain ⟨c0, c1⟩ := Rule.cells_ (fun j u hu => (cells_of hbw b _ hb).trans (hc j u hu)) hlt
      clear hc ha
      have hkl := lasts_len p.rules k
      have hon := Lib.hid (lasts_on hlt)
      obtain ⟨v', w', hrun, hown', hb', hgr, hobn⟩ := append_at EI hown hbw wr.heap.size rfl [.int .i64 (wrap64 (p.rules[k].v - 1))] 1 rfl (by simp [Value.oneCell']) (by simp only [maxLen]; omega) (by omega)
      rw [ints_snoc, ← List.length_singleton (a := wrap64 (p.rules[k].v - 1)), ← List.length_append, ← hon.out] at hown'
      have hbx' := Lib.hid ((hgr.block _ hs0 (fun e => by have := hob.out _ e.symm; omega)).trans hbx.out)
      have hob' : Hid (∀ q, v'.ownBlock = some q → w.heap.size + 1 ≤ q) := Lib.hid (fun q hq => by
        rcases hobn with e | e
        · exact hob.out q (e ▸ hq)
        · rw [e] at hq; injection hq with hq; omega)
      replace hown' := Lib.hid hown'
      replace hb' := Lib.hid hb'
      clear hown hbw hgr hobn
      go_wp2_with (at_builtin; refine wpList_append_run rfl rfl hrun ?_)
      go_roundw
      case rel => exact ⟨k + 1, by omega, by go_num, hown'.out, hb'.out, hbx', hob'⟩
      case measure => simp [intOf]; omega
    · obtain rfl : k = p.rules.length := by omega
      rw [List.take_length] at hown
      replace hown := Lib.hid hown
      have hs0 := blk_lt hbx.out
      obtain ⟨x0, x1, x2, x3, x4⟩ := blk5 hbx.out
      go_wp2
      go_ret
      exact ⟨_, rfl, hown.out, hbw⟩
end Go.Proofs.Ytlakellmdcdaaaa.Pc

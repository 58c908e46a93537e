/-
  The contracts of laws.markStateS, heldStateS, markState and heldState.
  Conditions: the list is the call's own; the marks' numbers up to 2^40.
-/
import Derived.Test.YtocplbhgklfgeaaHeaps
import Derived.Test.YtocplbhgklfgeaaMarkInts
namespace Go.Proofs.Ytocplbhgklfgeaa.States
open Go.RowKit Go.Proofs.Ytocplbhgklfgeaa.Row Go.Proofs.Ytocplbhgklfgeaa.Mem Go.Proofs.Ytocplbhgklfgeaa.Mix Go.Proofs.Ytocplbhgklfgeaa.Ints Go.Proofs.Ytocplbhgklfgeaa.State Go.Proofs.Ytocplbhgklfgeaa.Recs Go.Proofs.Ytocplbhgklfgeaa.Owns Go.Proofs.Ytocplbhgklfgeaa.Blocks Go.Proofs.Ytocplbhgklfgeaa.Sift
def kAt (k : Nat) (ys : List S) (j : Nat) : Nat := k + ((ys.take j).map fun y => y.vals.length + 1).sum
theorem kAt_zero (k : Nat) (ys : List S) : kAt k ys 0 = k := by simp [kAt]
theorem kAt_succ (k : Nat) (ys : List S) {j : Nat} (h : j < ys.length) : kAt k ys (j + 1) = kAt k ys j + ys[j].vals.length + 1 := by
  unfold kAt
  rw [List.take_succ_eq_append_getElem h, List.map_append, List.sum_append]
  simp
  omega
theorem kAt_le (k : Nat) (ys : List S) (j : Nat) : kAt k ys j ≤ k + tot ys + ys.length := by
  unfold kAt tot
  have h : ∀ (ys : List S) (j : Nat), ((ys.take j).map fun y => y.vals.length + 1).sum ≤ (ys.map fun x => x.vals.length).sum + ys.length := by
    intro ys
    induction ys with
    | nil => intro j; simp
    | cons a ys ih =>
      intro j
      cases j with
      | zero => simp
      | succ j => have := ih j; simp only [List.take_succ_cons, List.map_cons, List.sum_cons, List.length_cons]; omega
  have := h ys j
  omega
def mkOne (k : Nat) (ys : List S) (i : Nat) (y : S) : S := ⟨y.v, MarkInts.marks (kAt k ys i) y.vals.length, ((kAt k ys i + y.vals.length : Nat) : Int)⟩
def mkTo (k : Nat) (ys : List S) (j : Nat) : List S := ys.mapIdx fun i y => if i < j then mkOne k ys i y else y
theorem mkTo_len (k : Nat) (ys : List S) (j : Nat) : (mkTo k ys j).length = ys.length := by simp [mkTo]
theorem mkTo_zero (k : Nat) (ys : List S) : mkTo k ys 0 = ys := by
  apply List.ext_getElem (by simp [mkTo])
  intro i h1 h2
  simp [mkTo]
theorem mkTo_at (k : Nat) (ys : List S) (j i : Nat) (h : i < ys.length) : (mkTo k ys j)[i]'(by rw [mkTo_len]; exact h) = if i < j then mkOne k ys i ys[i] else ys[i] := by simp [mkTo]
theorem mkTo_succ (k : Nat) (ys : List S) {j : Nat} (h : j < ys.length) : mkTo k ys (j + 1) = (mkTo k ys j).set j (mkOne k ys j ys[j]) := by
  apply List.ext_getElem (by simp [mkTo])
  intro i h1 h2
  have hi : i < ys.length := by rw [mkTo_len] at h1; exact h1
  rw [mkTo_at k ys (j + 1) i hi, List.getElem_set]
  by_cases hij : j = i
  · subst hij
    simp
  · rw [if_neg hij, mkTo_at k ys j i hi]
    by_cases h3 : i < j
    · rw [if_pos h3, if_pos (by omega)]
    · rw [if_neg h3, if_neg (by omega)]
theorem grown_ahead {w w1 w' : World} {row : Option Nat} (b : Below w.heap.size w w1) (k : w1.grownBy w' row) : w.grownBy w' row :=
  ⟨k.os.trans b.os, k.tape.trans b.tape, k.output.trans b.output, Nat.le_trans b.size k.size, fun i hi hn => (k.block i (Nat.lt_of_lt_of_le hi b.size) hn).trans (b.block i hi)⟩
/-- a state's numbers written over -/
theorem HL.row2 {w w2 : World} {lo n q cap j : Nat} {zs : List S} {va : Value} {al : List Int} {am : Int} (h : HL w lo (.slice (some ⟨q, 0, none⟩) n cap) n zs) (hj : j < zs.length) (ea : zs[j] = ⟨va, al, am⟩) (gr : w.grownBy w2 va.ownBlock) :
    w2.ownsRow lo 31 2 (.slice (some ⟨q, 0, none⟩) n cap) n (cs zs) := by
  have ha := h.own.1 _ (List.getElem_mem hj)
  rw [ea] at ha
  exact owns_kept h.row gr (fun q' hq' e => own_two ha h.row (by decide) q' e hq')
/-- .. then its sum -/
theorem HL.mark {w w2 : World} {lo n q cap j : Nat} {zs : List S} {va : Value} {al us : List Int} {am m : Int} (h : HL w lo (.slice (some ⟨q, 0, none⟩) n cap) n zs) (hj : j < zs.length) (ea : zs[j] = ⟨va, al, am⟩)
    (hr : w2.ownsRow lo 3 1 va us.length (ints us)) (gr : w.grownBy w2 va.ownBlock) :
    HL (w2.setCell ⟨q, j * 2 + 1, none⟩ (.int .i64 m)) lo (.slice (some ⟨q, 0, none⟩) n cap) n (zs.set j ⟨va, us, m⟩) := by
  have hrow := h.row2 hj ea gr
  obtain ⟨cur, hq, -, -⟩ := owns_blk hrow
  have ks : w2.grownBy (w2.setCell ⟨q, j * 2 + 1, none⟩ (.int .i64 m)) (some q) := grown_set (World.grownBy.refl w2 _) _ _
  have keep : ∀ (v : Value) (k : Nat) (l : List Int), w2.ownsRow lo 3 1 v k (ints l) → (w2.setCell ⟨q, j * 2 + 1, none⟩ (.int .i64 m)).ownsRow lo 3 1 v k (ints l) := fun v k l ho =>
    owns_kept ho ks (fun q' hq' e => by injection e with e; subst e; exact own_ne ho hq (by decide) hq')
  refine ⟨by rw [List.length_set]; exact h.len, ?_, ?_, ?_⟩
  · have h1 := owns_setz hrow (j * 2 + 1) (.int .i64 m)
    rw [show (cs zs).set (j * 2 + 1) (.int .i64 m) = cs (zs.set j ⟨va, us, m⟩) from flat_set cells_len zs j 1 (.int .i64 m) ⟨va, us, m⟩ hj (by omega) (by rw [ea]; rfl)] at h1
    exact h1
  · intro y hy
    obtain ⟨i, hi, hy⟩ := List.getElem_of_mem hy
    rw [List.getElem_set] at hy
    by_cases hij : j = i
    · rw [if_pos hij] at hy
      subst hy
      exact keep _ _ _ hr
    · rw [if_neg hij] at hy
      subst hy
      have hi2 : i < zs.length := by simpa using hi
      refine keep _ _ _ (owns_kept (h.own.1 _ (List.getElem_mem hi2)) gr (fun q' hq' e => ?_))
      have hp := List.pairwise_iff_getElem.1 h.own.2
      rcases Nat.lt_or_gt_of_ne hij with hlt | hgt
      · have := hp j i hj hi2 hlt
        rw [ea] at this
        rcases this with h0 | h0
        · rw [e] at h0; cases h0
        · exact h0 (by rw [e, hq'])
      · have := hp i j hi2 hj hgt
        rw [ea] at this
        rcases this with h0 | h0
        · rw [hq'] at h0; cases h0
        · exact h0 (by rw [hq']; exact e.symm)
  · have hm : (zs.set j ⟨va, us, m⟩).map S.v = zs.map S.v := by
      apply List.ext_getElem (by simp)
      intro i h1 h2
      rw [List.getElem_map, List.getElem_map, List.getElem_set]
      split
      · rename_i hij; subst hij; rw [ea]
      · rfl
    have h1 : (zs.map S.v).Pairwise (fun x y : Value => x.ownBlock = none ∨ x.ownBlock ≠ y.ownBlock) := List.pairwise_map.2 h.own.2
    rw [← hm] at h1
    exact List.pairwise_map.1 h1
/-- what is no block of the list stays -/
def Stays (v : Value) (ys : List S) (w w' : World) : Prop := ∀ b, b < w.heap.size → v.ownBlock ≠ some b → (∀ y ∈ ys, y.v.ownBlock ≠ some b) → w'.heap[b]? = w.heap[b]?
set_option maxRecDepth 100000 in
set_option maxHeartbeats 1600000 in
theorem markS_any {v : Value} {n lo hi k : Nat} {ys : List S} {w : World} (h : HL w lo v n ys) (hv : ∀ q, v.ownBlock = some q → q < hi) (hy : ∀ y ∈ ys, ∀ q, y.v.ownBlock = some q → q < hi) (hk : k + tot ys + ys.length ≤ 1099511627776) :
    Calls Try.prog 13 #[v, .int .i64 k] w fun e w' => e = .returned (.int .i64 ((kAt k ys n : Nat) : Int)) ∧ HL w' lo v n (mkTo k ys n) ∧ Betw lo hi w w' ∧ Stays v ys w w' := by
  have hlen := Lib.hid h.len
  by_cases h0 : 0 < n
  · obtain ⟨q, cap, rfl, hq0, -, -⟩ := owns_some h.row h0
    have hq1 := hv q rfl
    replace hv := Lib.hid hv
    have hlo : HL w lo (.slice (some ⟨q, 0, none⟩) n cap) n (mkTo k ys 0) := by rw [mkTo_zero]; exact h
    have hk0 : Hid ((kAt k ys 0 : Nat) = k) := Lib.hid (kAt_zero k ys)
    replace hy := Lib.hid hy
    clear h
    replace hlo := Lib.hid hlo
    go_enter Try.func13, Try.ntmps13
    go_wp2
    go_loopw [1, 5] (fun kk i wr => ∃ j : Nat, j ≤ n ∧ i = .int .i64 j ∧ kk = .int .i64 ((kAt k ys j : Nat) : Int) ∧ HL wr lo (.slice (some ⟨q, 0, none⟩) n cap) n (mkTo k ys j) ∧ Betw lo hi w wr ∧ Hid (Stays (.slice (some ⟨q, 0, none⟩) n cap) ys w wr)) (fun _ i _ => n - (intOf i).toNat)
    case atStart => exact ⟨0, by omega, rfl, by rw [hk0.out], hlo.out, Betw.refl _ _ _, Lib.hid fun _ _ _ _ => rfl⟩
    case round =>
      clear hlo
      obtain ⟨j, hj, rfl, rfl, hz, hbw, hst⟩ := hrel
      by_cases hlt : j < n
      · have hjy : j < ys.length := by rw [hlen.out]; exact hlt
        have hjz : j < (mkTo k ys j).length := by rw [mkTo_len]; exact hjy
        have hkb := kAt_le k ys (j + 1)
        have hks := kAt_succ k ys hjy
        have hnext := Lib.hid (mkTo_succ k ys hjy)
        have ez : (mkTo k ys j)[j] = ys[j] := by rw [mkTo_at k ys j j hjy, if_neg (Nat.lt_irrefl j)]
        have hyj := hy.out _ (List.getElem_mem hjy)
        have hmem : ys[j] ∈ ys := List.getElem_mem hjy
        obtain ⟨a, ea⟩ : ∃ a, ys[j] = a := ⟨_, rfl⟩
        rw [ea] at ez hks hnext hyj hmem
        have ra := hz.own.1 _ (List.getElem_mem hjz)
        rw [ez] at ra
        obtain ⟨Aa, ca, ha⟩ := lit (row_of_owns ra)
        rcases a with ⟨av, al, am⟩
        obtain rfl : av = .slice Aa al.length ca := ha
        replace ra : wr.ownsRow lo 3 1 (.slice Aa al.length ca) al.length (ints al) := ra
        replace hks : kAt k ys (j + 1) = kAt k ys j + al.length + 1 := hks
        have hnx : Hid (mkTo k ys (j + 1) = (mkTo k ys j).set j ⟨.slice Aa al.length ca, MarkInts.marks (kAt k ys j) al.length, ((kAt k ys j + al.length : Nat) : Int)⟩) := hnext
        obtain ⟨zs, hzs⟩ : ∃ zs, mkTo k ys j = zs := ⟨_, rfl⟩
        simp only [hzs] at hz ez hjz hnx
        replace hzs := Lib.hid hzs
        obtain ⟨K, hK⟩ : ∃ K, kAt k ys j = K := ⟨_, rfl⟩
        rw [hK] at hnx hks
        obtain ⟨M, hM⟩ : ∃ M, K + al.length = M := ⟨_, rfl⟩
        have hmk := Lib.hid (MarkInts.mark_any (k := K) ra (by omega))
        rw [hM] at hnx hks hmk
        obtain ⟨p0, p1⟩ := hz.cells hjz ez
        have i0 : (0 : Int) ≤ (j : Int) := by omega
        have i1 : (j : Int) < (n : Int) := by omega
        have hM9 : M ≤ 1099511627776 := by omega
        have hnum := Lib.hid (show ((kAt k ys (j + 1) : Nat) : Int) = (M : Int) + 1 by rw [hks]; omega)
        rw [hK]
        replace hK := Lib.hid hK
        replace hM := Lib.hid hM
        replace hks := Lib.hid hks
        replace hkb := Lib.hid hkb
        replace hz := Lib.hid hz
        replace ez := Lib.hid ez
        replace hbw := Lib.hid hbw
        replace hyj := Lib.hid hyj
        replace hmem := Lib.hid hmem
        replace ra := Lib.hid ra
        clear hnext ea
        go_wp2_with fail
        refine hmk.out.mono ?_
        rintro e w2 ⟨rfl, r2, g2⟩
        have hrow := hz.out.row2 hjz ez.out g2
        obtain ⟨cur, hqb, -, -⟩ := owns_blk hrow
        have fq := frz hqb
        obtain ⟨u1, c1⟩ : ∃ u, w2.cell? ⟨q, j * 2 + 1, none⟩ = some u := by
          obtain ⟨A9, c9, e9, -, -, -, -, hc9⟩ := row_of_owns hrow
          cases e9
          obtain ⟨b9, o9, e9, -, hc9⟩ := hc9 (by omega)
          cases e9
          have := hc9 _ _ (flat_at cells_len zs j 1 hjz (by omega))
          rw [Nat.zero_add] at this
          exact ⟨_, this⟩
        have r3 : w2.ownsRow lo 3 1 (.slice Aa al.length ca) (MarkInts.marks K al.length).length (ints (MarkInts.marks K al.length)) := by rw [MarkInts.marks_len]; exact r2
        have hfin := Lib.hid (hz.out.mark (m := (M : Int)) hjz ez.out r3 g2)
        have hbf := Lib.hid ((hbw.out.grown g2 (fun q' hq' => ⟨(ra.out.lt q' hq').1, hyj.out q' hq'⟩)).grown (grown_set (World.grownBy.refl w2 (some q)) (j * 2 + 1) (.int .i64 (M : Int))) (fun q' hq' => by injection hq' with hq'; subst hq'; exact ⟨hq0, hq1⟩))
        have hst2 : Hid (Stays (.slice (some ⟨q, 0, none⟩) n cap) ys w (w2.setCell ⟨q, j * 2 + 1, none⟩ (.int .i64 (M : Int)))) := Lib.hid fun b hb h1 h2 => by
          have e1 : (w2.setCell ⟨q, j * 2 + 1, none⟩ (.int .i64 (M : Int))).heap[b]? = w2.heap[b]? := Below.heap_setCell _ ⟨q, _, none⟩ _ b (fun e => h1 (by rw [e]; rfl))
          rw [e1]
          exact (g2.block b (Nat.lt_of_lt_of_le hb hbw.out.2.2.2.1) (fun e => h2 _ hmem.out e.symm)).trans (hst.out b hb h1 h2)
        clear hz ez p0 p1 hrow hqb r2 r3 g2 hmk hbw ra hst hmem
        go_wp2
        first
          | exact ⟨⟨j + 1, by omega, by go_num, by rw [hnum.out], by rw [hnx.out]; exact hfin.out, hbf.out, hst2⟩, by simp [intOf]; omega⟩
          | (go_roundw
             case rel => exact ⟨j + 1, by omega, by go_num, by rw [hnum.out], by rw [hnx.out]; exact hfin.out, hbf.out, hst2⟩
             case measure => simp [intOf]; omega)
      · obtain rfl : j = n := by omega
        replace hz := Lib.hid hz
        go_wp2
        go_ret
        exact ⟨rfl, hz.out, hbw, hst.out⟩
  · obtain rfl : n = 0 := by omega
    obtain rfl : ys = [] := List.eq_nil_of_length_eq_zero hlen.out
    obtain ⟨A, c, rfl, -⟩ := row_of_owns h.row
    replace h := Lib.hid h
    replace hv := Lib.hid hv
    have hk0 : Hid (kAt k [] 0 = k) := Lib.hid (kAt_zero k [])
    go_enter Try.func13, Try.ntmps13
    go_wp2
    go_loopw [1, 5] (fun q i wr => q = .int .i64 k ∧ i = .int .i64 0 ∧ wr = w) (fun i _ _ => 0)
    case atStart => exact ⟨rfl, rfl, rfl⟩
    case round =>
      obtain ⟨rfl, rfl, rfl⟩ := hrel
      go_wp2
      go_ret
      exact ⟨by rw [hk0.out]; rfl, h.out, Betw.refl _ _ _, fun _ _ _ _ => rfl⟩
set_option maxRecDepth 100000 in
set_option maxHeartbeats 1600000 in
theorem heldS_any {v : Value} {n k : Nat} {ys : List S} {w : World} (h : SRow w v (mkTo k ys n)) (hlen : ys.length = n) (hk : k + tot ys + ys.length ≤ 1099511627776) :
    Calls Try.prog 15 #[v, .int .i64 k] w fun e w' => e = .returned (.int .i64 ((kAt k ys n : Nat) : Int)) ∧ Below w.heap.size w w' := by
  have hrows := Lib.hid h.2
  have h1 := h.1
  rw [mkTo_len, hlen] at h1
  obtain ⟨A, c, rfl, -, hnl, hnc, hcm, ha⟩ := h1
  clear h
  replace hlen := Lib.hid hlen
  have hk0 : Hid ((kAt k ys 0 : Nat) = k) := Lib.hid (kAt_zero k ys)
  go_enter Try.func15, Try.ntmps15
  go_wp2
  go_loopw [1, 5] (fun kk i wr => ∃ j : Nat, j ≤ n ∧ i = .int .i64 j ∧ kk = .int .i64 ((kAt k ys j : Nat) : Int) ∧ Below w.heap.size w wr) (fun _ i _ => n - (intOf i).toNat)
  case atStart => exact ⟨0, by omega, rfl, by rw [hk0.out], Below.refl _ _⟩
  case round =>
    obtain ⟨j, hj, rfl, rfl, hbw⟩ := hrel
    by_cases hlt : j < n
    · have hjy : j < ys.length := by rw [hlen.out]; exact hlt
      have hjz : j < (mkTo k ys n).length := by rw [mkTo_len]; exact hjy
      have hkb := kAt_le k ys (j + 1)
      have hks := kAt_succ k ys hjy
      have ez : (mkTo k ys n)[j] = mkOne k ys j ys[j] := by rw [mkTo_at k ys n j hjy, if_pos hlt]
      obtain ⟨b, off, rfl, hb, hc⟩ := ha (by omega)
      obtain ⟨p0, p1⟩ := cells_ (fun j u hu => (cells_of hbw b _ hb).trans (hc j u hu)) hjz
      have hvr : VRow wr (mkTo k ys n)[j] := (hrows.out _ (List.getElem_mem hjz)).below hbw
      rw [ez] at p0 p1 hvr
      obtain ⟨a, ea⟩ : ∃ a, ys[j] = a := ⟨_, rfl⟩
      rw [ea] at p0 p1 hvr hks
      rcases a with ⟨av, al, am⟩
      replace hks : kAt k ys (j + 1) = kAt k ys j + al.length + 1 := hks
      have hvr2 : Row wr av 1 al.length (ints (MarkInts.marks (kAt k ys j) al.length)) := by have := hvr; unfold VRow mkOne at this; simp only [MarkInts.marks_len] at this; exact this
      replace p0 : wr.cell? ⟨b, off + j * 2, none⟩ = some av := p0
      replace p1 : wr.cell? ⟨b, off + j * 2 + 1, none⟩ = some (.int .i64 ((kAt k ys j + al.length : Nat) : Int)) := p1
      clear hvr
      obtain ⟨Aa, ca, rfl, -⟩ := id hvr2
      obtain ⟨K, hK⟩ : ∃ K, kAt k ys j = K := ⟨_, rfl⟩
      rw [hK] at hks p1 hvr2 ⊢
      obtain ⟨M, hM⟩ : ∃ M, K + al.length = M := ⟨_, rfl⟩
      have hmk := Lib.hid (MarkInts.held_any (k := K) hvr2 (by omega))
      rw [hM] at hks hmk p1
      have i0 : (0 : Int) ≤ (j : Int) := by omega
      have i1 : (j : Int) < (n : Int) := by omega
      have hM9 : M ≤ 1099511627776 := by omega
      have d0 : decide ((M : Int) < 0) = false := decide_eq_false (by omega)
      have d1 : ((M : Int) != (M : Int)) = false := by simp
      have hnum := Lib.hid (show ((kAt k ys (j + 1) : Nat) : Int) = (M : Int) + 1 by rw [hks]; omega)
      replace hK := Lib.hid hK
      replace hM := Lib.hid hM
      replace hks := Lib.hid hks
      replace hkb := Lib.hid hkb
      replace ez := Lib.hid ez
      have zb := Nat.lt_of_lt_of_le hb hbw.size
      replace hbw := Lib.hid hbw
      have hcp := Lib.hid p1
      clear hc ha hvr2 ea
      go_wp2_with fail
      refine hmk.out.mono ?_
      rintro e w2 ⟨rfl, b2⟩
      have p2 := (cells_of b2 b _ zb).trans hcp.out
      have hB := Lib.hid (hbw.out.trans (b2.mono hbw.out.size))
      clear p0 p1 b2 hmk hbw
      go_wp2
      first
        | exact ⟨⟨j + 1, by omega, by go_num, by rw [hnum.out], hB.out⟩, by simp [intOf]; omega⟩
        | (go_roundw
           case rel => exact ⟨j + 1, by omega, by go_num, by rw [hnum.out], hB.out⟩
           case measure => simp [intOf]; omega)
    · obtain rfl : j = n := by omega
      go_wp2
      go_ret
      exact ⟨rfl, hbw⟩
set_option maxRecDepth 100000 in
set_option maxHeartbeats 800000 in
theorem markState_any {v : Value} {xl : List Int} {s : Int} {lo k : Nat} {w : World} (h : w.ownsRow lo 3 1 v xl.length (ints xl)) (hk : k + xl.length ≤ 1099511627776) :
    Calls Try.prog 14 #[state v s, .int .i64 k] w fun e w' => e = .returned (.int .i64 ((k + xl.length : Nat) : Int)) ∧ w'.ownsRow lo 3 1 v xl.length (ints (MarkInts.marks k xl.length)) ∧ w.grownBy w' v.ownBlock := by
  obtain ⟨A, c, rfl, -⟩ := row_of_owns h
  have al := (Below.refl w.heap.size w).alloc (Nat.le_refl _) (.cells #[.slice A xl.length c, .int .i64 s] 31)
  have hc := Lib.hid (MarkInts.mark_any (own_below h al) hk)
  clear h
  obtain ⟨M, hM⟩ : ∃ M, k + xl.length = M := ⟨_, rfl⟩
  rw [hM] at hc ⊢
  replace hM := Lib.hid hM
  replace al := Lib.hid al
  go_enter Try.func14, Try.ntmps14
  go_wp2_with fail
  refine hc.out.mono ?_
  rintro e w1 ⟨rfl, h1, k1⟩
  replace h1 := Lib.hid h1
  replace k1 := Lib.hid k1
  go_wp2
  go_ret
  exact ⟨rfl, h1.out, grown_ahead al.out k1.out⟩
set_option maxRecDepth 100000 in
set_option maxHeartbeats 800000 in
theorem heldState_any {v : Value} {n : Nat} {s : Int} {k : Nat} {w : World} (h : Row w v 1 n (ints (MarkInts.marks k n))) (hk : k + n ≤ 1099511627776) :
    Calls Try.prog 18 #[state v s, .int .i64 k] w fun e w' => e = .returned (.int .i64 ((k + n : Nat) : Int)) ∧ Below w.heap.size w w' := by
  obtain ⟨A, c, rfl, -⟩ := id h
  have al := (Below.refl w.heap.size w).alloc (Nat.le_refl _) (.cells #[.slice A n c, .int .i64 s] 31)
  have hc := Lib.hid (MarkInts.held_any (h.below al) hk)
  clear h
  obtain ⟨M, hM⟩ : ∃ M, k + n = M := ⟨_, rfl⟩
  rw [hM] at hc ⊢
  have d0 : decide ((M : Int) < 0) = false := decide_eq_false (by omega)
  replace hM := Lib.hid hM
  replace al := Lib.hid al
  go_enter Try.func18, Try.ntmps18
  go_wp2_with fail
  refine hc.out.mono ?_
  rintro e w1 ⟨rfl, b1⟩
  have hB := Lib.hid (al.out.trans (b1.mono al.out.size))
  clear b1 hc
  go_wp2
  go_ret
  exact ⟨rfl, hB.out⟩
end Go.Proofs.Ytocplbhgklfgeaa.States

/-
  The contracts of the reference's cursor over drawn bytes: l01New, l01Byte, l01Below.
  Conditions: the code that is drawn from reads as bytes.
-/
import Derived.Test.YtlakellmdcdaaaaChecked
import Derived.Test.YtlakellmdcdaaaaRow
import Derived.Test.YtlakellmdcdaaaaMem
import Derived.Test.YtlakellmdcdaaaaMix
import Derived.WalkKit
import Derived.ProofKit
import Derived.WalkLawsBesides
import Derived.WalkSpells
import Derived.Lib.Hide
import Derived.Deep.QuietTactic
import Derived.BigQuiet
import Derived.Test.YtlakellmdcdaaaaOwns
import Derived.Test.YtlakellmdcdaaaaBlocks
namespace Go.Proofs.Ytlakellmdcdaaaa.Draw
open Go.RowKit Go.Proofs.Ytlakellmdcdaaaa.Row Go.Proofs.Ytlakellmdcdaaaa.Mem Go.Proofs.Ytlakellmdcdaaaa.Mix Go.Proofs.Ytlakellmdcdaaaa.Owns Go.Proofs.Ytlakellmdcdaaaa.Blocks
/-- all but block g is as it was -/
abbrev Keep (g : Nat) (w w' : World) : Prop := w.grownBy w' (some g)
theorem keep_refl (g : Nat) (w : World) : Keep g w w := World.grownBy.refl w _
theorem keep_drew {g : Nat} {a w : World} (h : Keep g a w) : Keep g a w.drew := ⟨h.os, h.tape, h.output, h.size, h.block⟩
theorem keep_drewN {g : Nat} {a w : World} (h : Keep g a w) (n : Nat) : Keep g a (w.drewN n) := ⟨h.os, h.tape, h.output, h.size, h.block⟩
theorem keep_trans {g : Nat} {a b c : World} (h : Keep g a b) (k : Keep g b c) : Keep g a c :=
  ⟨k.os.trans h.os, k.tape.trans h.tape, k.output.trans h.output, Nat.le_trans h.size k.size, fun i hi hn => (k.block i (Nat.lt_of_lt_of_le hi h.size) hn).trans (h.block i hi hn)⟩
theorem keep_below {g : Nat} {a w w' : World} (h : Keep g a w) (k : Below w.heap.size w w') : Keep g a w' :=
  ⟨k.os.trans h.os, k.tape.trans h.tape, k.output.trans h.output, Nat.le_trans h.size k.size, fun i hi hn => (k.block i (Nat.lt_of_lt_of_le hi h.size)).trans (h.block i hi hn)⟩
theorem below_keep {B g : Nat} {a w w' : World} (h : Below B a w) (k : Keep g w w') (hB : B ≤ w.heap.size) (hg : B ≤ g) : Below B a w' :=
  h.trans ⟨k.os, k.tape, k.output, k.size, fun i hi => k.block i (by omega) (by intro e; injection e; omega)⟩
theorem keep_setCell {g : Nat} {a w : World} (h : Keep g a w) (o : Nat) (u : Value) : Keep g a (w.setCell ⟨g, o, none⟩ u) :=
  ⟨h.os, h.tape, h.output, by simpa [World.setCell] using h.size, fun i hi hn => (Below.heap_setCell w ⟨g, o, none⟩ u i (fun e => hn (by rw [e]))).trans (h.block i hi hn)⟩
theorem own_keep {w w' : World} {base : Nat} {e : TypeId} {size g : Nat} {v : Value} {n : Nat} {xs : List Value} (h : w.ownsRow base e size v n xs) (k : Keep g w w') (hg : g < base) : w'.ownsRow base e size v n xs :=
  h.kept k (by
    cases hv : v.ownBlock with
    | none => simp
    | some q => exact .inr (fun e => by injection e with e; have := (h.lt q hv).1; omega))

/-- the cursor: it lies in block g; the code that it reads lies elsewhere -/
def Cur (w : World) (c : Value) (g : Nat) : Prop :=
  c = .pointer (some ⟨g, 0, none⟩) ∧ ∃ (A : Option Addr) (n cap i : Nat) (h : Int) (bs : List Int), w.heap[g]? = some (.cells #[.slice A n cap, .int .i64 i, .int .i64 h] 132 (0, 0)) ∧
    i ≤ n ∧ n ≤ 9223372036854775000 ∧ n ≤ cap ∧ bs.length = n ∧ (∀ x ∈ bs, 0 ≤ x ∧ x ≤ 255) ∧ (0 < n → ∃ b off, A = some ⟨b, off, none⟩ ∧ b < g ∧ ∀ j (hj : j < bs.length), w.cell? ⟨b, off + j, none⟩ = some (.int .u8 bs[j]))
theorem Cur.lt {w : World} {c : Value} {g : Nat} (h : Cur w c g) : g < w.heap.size := by
  obtain ⟨_, _, _, _, _, _, _, hb, _⟩ := h
  exact (Array.getElem?_eq_some_iff.1 hb).1
theorem Cur.below {w w' : World} {c : Value} {g : Nat} (h : Cur w c g) (k : Below w.heap.size w w') : Cur w' c g := by
  have hg := h.lt
  obtain ⟨hc, A, n, cap, i, hh, bs, hb, h1, h2, h3, h4, h5, h6⟩ := h
  refine ⟨hc, A, n, cap, i, hh, bs, (k.block g hg).trans hb, h1, h2, h3, h4, h5, fun h0 => ?_⟩
  obtain ⟨b, off, hA, hlt, hcell⟩ := h6 h0
  exact ⟨b, off, hA, hlt, fun j hj => (k.cell (p := ⟨b, off + j, none⟩) (Nat.lt_trans hlt hg)).trans (hcell j hj)⟩
/-- what writes blocks younger than the cursor alone -/
theorem Cur.grown {w w' : World} {c : Value} {g : Nat} (h : Cur w c g) {row : Option Nat} (k : w.grownBy w' row) (hr : ∀ q, row = some q → g < q) : Cur w' c g := by
  have hg := h.lt
  obtain ⟨hc, A, n, cap, i, hh, bs, hb, h1, h2, h3, h4, h5, h6⟩ := h
  refine ⟨hc, A, n, cap, i, hh, bs, (k.block g hg (fun e => by have := hr g e.symm; omega)).trans hb, h1, h2, h3, h4, h5, fun h0 => ?_⟩
  obtain ⟨b, off, hA, hlt, hcell⟩ := h6 h0
  exact ⟨b, off, hA, hlt, fun j hj => (World.cell?_of_block (w := w) (a := ⟨b, off + j, none⟩) (k.block b (by omega) (fun e => by have := hr b e.symm; omega))).trans (hcell j hj)⟩
theorem and255 (x : Int) : 0 ≤ bits BinOp.and IntKind.i64 x 255 ∧ bits BinOp.and IntKind.i64 x 255 ≤ 255 := by
  have h : (BitVec.ofInt 64 x &&& BitVec.ofInt 64 255).toNat ≤ 255 := by
    rw [BitVec.toNat_and]; exact Nat.and_le_right
  have e : bits BinOp.and IntKind.i64 x 255 = IntKind.i64.wrap ((BitVec.ofInt 64 x &&& BitVec.ofInt 64 255).toNat : Int) := rfl
  rw [e, IntKind.wrap_i64]
  omega
theorem Keep.cell {g : Nat} {w w' : World} (k : Keep g w w') {b o : Nat} (hb : b < w.heap.size) (hne : b ≠ g) : w'.cell? ⟨b, o, none⟩ = w.cell? ⟨b, o, none⟩ :=
  World.cell?_of_block (w := w) (a := ⟨b, o, none⟩) (k.block b hb (fun e => by injection e with e; exact hne e))
/-- the cursor's block written anew -/
theorem cur_mk {w w' : World} {g n cap i j : Nat} {A : Option Addr} {h h1 : Int} {bs : List Int} (hb : w.heap[g]? = some (.cells #[.slice A n cap, .int .i64 i, .int .i64 h] 132 (0, 0)))
    (hj : j ≤ n) (hn : n ≤ 9223372036854775000) (hcap : n ≤ cap) (hl : bs.length = n) (hbs : ∀ x ∈ bs, 0 ≤ x ∧ x ≤ 255)
    (hA : 0 < n → ∃ b off, A = some ⟨b, off, none⟩ ∧ b < g ∧ ∀ j (hj : j < bs.length), w.cell? ⟨b, off + j, none⟩ = some (.int .u8 bs[j]))
    (k : Keep g w w') (hb' : w'.heap[g]? = some (.cells #[.slice A n cap, .int .i64 j, .int .i64 h1] 132 (0, 0))) : Cur w' (.pointer (some ⟨g, 0, none⟩)) g := by
  refine ⟨rfl, A, n, cap, j, h1, bs, hb', hj, hn, hcap, hl, hbs, fun h0 => ?_⟩
  obtain ⟨b, off, e, hlt, hc⟩ := hA h0
  have hg := blk_lt hb
  exact ⟨b, off, e, hlt, fun j hj => (k.cell (by omega) (by omega)).trans (hc j hj)⟩
set_option maxRecDepth 100000 in
set_option maxHeartbeats 1600000 in
theorem byte_any {w : World} {c : Value} {g : Nat} (hc : Cur w c g) :
    Calls Try.prog 121 #[c] w fun e w' => ∃ x : Int, 0 ≤ x ∧ x ≤ 255 ∧ e = .returned (.int .i64 x) ∧ Cur w' c g ∧ Keep g w w' := by
  have hg := hc.lt
  obtain ⟨rfl, A, n, cap, i, h, bs, hb, hi, hn, hcap, hl, hbs, hA⟩ := hc
  obtain ⟨c0, c1, c2⟩ := blk3 hb
  have f2 := frz hb 2
  obtain ⟨h1, hh1⟩ : ∃ h1, wrap64 (wrap64 (h * 6364136223846793005) + 1442695040888963407) = h1 := ⟨_, rfl⟩
  have hb1 := heap_set hb 2 (.int .i64 h1)
  have hk1 : Keep g w (w.setCell ⟨g, 2, none⟩ (.int .i64 h1)) := keep_setCell (keep_refl g w) 2 _
  obtain ⟨W1, hW1⟩ : ∃ W1, w.setCell ⟨g, 2, none⟩ (.int .i64 h1) = W1 := ⟨_, rfl⟩
  rw [hW1] at hb1 hk1
  obtain ⟨d0, d1, d2⟩ := blk3 (a := .slice A n cap) (b := .int .i64 i) (c := .int .i64 h1) hb1
  have hl1 := blk_lt hb1
  have f1 := frz hb1 1
  replace hh1 := Lib.hid hh1
  replace hW1 := Lib.hid hW1
  replace hbs := Lib.hid hbs
  by_cases hlt : i < n
  · obtain ⟨b, off, rfl, hbg, hcell⟩ := hA (by omega)
    have c3 := (hk1.cell (show b < w.heap.size by omega) (by omega)).trans (hcell i (by omega))
    have hxb := hbs.out _ (List.getElem_mem (show i < bs.length by omega))
    have hbl : b < W1.heap.size := by omega
    generalize bs[i] = y at c3 hxb
    replace hcell := Lib.hid hcell
    have hA' : Hid (0 < n → ∃ b' off', some (⟨b, off, none⟩ : Addr) = some ⟨b', off', none⟩ ∧ b' < g ∧ ∀ j (hj : j < bs.length), w.cell? ⟨b', off' + j, none⟩ = some (.int .u8 bs[j])) := Lib.hid hA
    replace hb := Lib.hid hb
    clear hA
    have hk2 := Lib.hid hk1
    have hb2 := Lib.hid hb1
    clear hk1 hb1
    have i0 : (0 : Int) ≤ (i : Int) := by omega
    have i1 : (i : Int) < (n : Int) := by omega
    go_enter Try.func121, Try.ntmps121
    go_wp2
    rw [hh1.out, hW1.out]
    clear c0 c1 c2 f2 hW1
    go_quiet (fail)
    obtain ⟨z0, z1⟩ := and255 (bits BinOp.xor IntKind.i64 (h1 / 8589934592) (h1 / 35184372088832))
    generalize bits BinOp.and IntKind.i64 (bits BinOp.xor IntKind.i64 (h1 / 8589934592) (h1 / 35184372088832)) 255 = z at z0 z1 ⊢
    go_wp2
    go_quiet (fail)
    go_wp2
    go_quiet (fail)
    go_wp2
    go_ret
    obtain ⟨y0, y1⟩ := and255 (z + y)
    refine ⟨_, y0, y1, rfl, ?_, ?_⟩
    · exact cur_mk hb.out (show i + 1 ≤ n by omega) hn hcap hl hbs.out hA'.out (keep_setCell (keep_drewN hk2.out _) 1 _) (heap_set hb2.out 1 (.int .i64 ((i : Int) + 1)))
    · exact keep_setCell (keep_drewN hk2.out _) 1 _
  · have hA' := Lib.hid hA
    replace hb := Lib.hid hb
    clear hA
    have hk2 := Lib.hid hk1
    have hb2 := Lib.hid hb1
    clear hk1 hb1
    have hin : Hid (i = n) := Lib.hid (by omega)
    have d3 : decide ((i : Int) < (n : Int)) = false := by simp; omega
    go_enter Try.func121, Try.ntmps121
    go_wp2
    rw [hh1.out, hW1.out]
    clear c0 c1 c2 f2 hW1
    go_quiet (fail)
    obtain ⟨z0, z1⟩ := and255 (bits BinOp.xor IntKind.i64 (h1 / 8589934592) (h1 / 35184372088832))
    generalize bits BinOp.and IntKind.i64 (bits BinOp.xor IntKind.i64 (h1 / 8589934592) (h1 / 35184372088832)) 255 = z at z0 z1 ⊢
    go_wp2
    go_quiet (fail)
    go_wp2
    go_ret
    refine ⟨_, z0, z1, rfl, ?_, ?_⟩
    · exact cur_mk (j := i) hb.out hi hn hcap hl hbs.out hA'.out (keep_drewN (keep_drewN hk2.out _) _) hb2.out
    · exact keep_drewN (keep_drewN hk2.out _) _
theorem Cur.keep_new {w w' : World} {c : Value} {g : Nat} (h : Cur w c g) {row : Option Nat} (k : w.grownBy w' row) (hr : ∀ q, row = some q → g < q) : Cur w' c g := h.grown k hr
set_option maxHeartbeats 800000 in
/-- a number below n -/
theorem below_any {w : World} {c : Value} {g : Nat} (hc : Cur w c g) (n : Int) :
    Calls Try.prog 98 #[c, .int .i64 n] w fun e w' => ∃ x : Int, 0 ≤ x ∧ (0 < n → x < n) ∧ (n ≤ 0 → x = 0) ∧ e = .returned (.int .i64 x) ∧ Cur w' c g ∧ Keep g w w' := by
  by_cases h0 : n ≤ 0
  · have d0 : decide (n ≤ 0) = true := by simpa using h0
    go_enter Try.func98, Try.ntmps98
    go_wp2
    go_ret
    exact ⟨0, by omega, by omega, fun _ => rfl, rfl, hc, keep_refl g w⟩
  · by_cases h1 : n ≤ 256
    · have d0 : decide (n ≤ 0) = false := by simpa using h0
      go_enter Try.func98, Try.ntmps98
      go_wp2_with fail
      refine (byte_any hc).mono ?_
      rintro e w1 ⟨x, x0, x1, rfl, c1, k1⟩
      have hm : x.tmod n = x % n := Int.tmod_eq_emod_of_nonneg x0
      have hp := Int.emod_nonneg x (show n ≠ 0 by omega)
      have hq := Int.emod_lt_of_pos x (show 0 < n by omega)
      have hnz : (n == 0) = false := by simp; omega
      go_wp2
      go_ret
      refine ⟨x % n, hp, fun _ => hq, by omega, ?_, c1, k1⟩
      try rfl
    · have d0 : decide (n ≤ 0) = false := by simpa using h0
      have d1 : decide (n ≤ 256) = false := by simpa using h1
      have hnz : (n == 0) = false := by simp; omega
      go_enter Try.func98, Try.ntmps98
      go_wp2_with fail
      refine (byte_any hc).mono ?_
      rintro e w1 ⟨x, x0, x1, rfl, c1, k1⟩
      go_wp2_with fail
      refine (byte_any c1).mono ?_
      rintro e w2 ⟨y, y0, y1, rfl, c2, k2⟩
      go_wp2_with fail
      refine (byte_any c2).mono ?_
      rintro e w3 ⟨z, z0, z1, rfl, c3, k3⟩
      go_wp2_with fail
      refine (byte_any c3).mono ?_
      rintro e w4 ⟨u, u0, u1, rfl, c4, k4⟩
      have k := keep_trans (keep_trans (keep_trans k1 k2) k3) k4
      clear c1 c2 c3 k1 k2 k3 k4 hc
      go_wp2
      go_ret
      exact ⟨_, Int.emod_nonneg _ (by omega), fun _ => Int.emod_lt_of_pos _ (by omega), by omega, rfl, c4, k⟩
/-- an append, the base as it is -/
theorem append_b {P : Program} {t e : TypeId} {z : Value} {size bytes : Nat} (E : Elem P t e z size bytes) {B : Nat} {W : World} {v : Value} {n : Nat} {xs : List Value} (hown : W.ownsRow B e size v n xs)
    (hB : B ≤ W.heap.size) (g : Nat) (hg : W.heap.size = g) (news : List Value) (m : Nat) (hl : news.length = m * size) (h1 : ∀ u ∈ news, u.oneCell' = true) (h63 : n + m ≤ maxLen) (hbytes : (n + m) * bytes ≤ 140737488355328) :
    ∃ v' w', (Builtin.append_ #[t, t] t #[v, .slice (some ⟨g, 0, none⟩) m m]).run P (W.alloc (.cells news.toArray e)) = .ok v' w' ∧ w'.ownsRow B e size v' (n + m) (xs ++ news) ∧
      W.grownBy w' v.ownBlock ∧ (v'.ownBlock = v.ownBlock ∨ v'.ownBlock = some (g + 1)) := by
  subst hg
  obtain ⟨i, hi, hz, hs, hy⟩ := info_parts E.info
  obtain ⟨v', w', hrun, h2, h3, _, h5⟩ := run_append_own_at (P := P) (W.alloc (.cells news.toArray e)) B t t e i z size bytes E.under hi hz hs hy E.cells E.pos v n xs (hown.alloc _)
    ⟨W.heap.size, 0, none⟩ m m news hl (fun j u hu => by
      have hj := cell_of_row (W.alloc (.cells news.toArray e)) W.heap.size j news.toArray e (0, 0) (heap_alloc_new W _)
      have ha : (⟨W.heap.size, 0, none⟩ : Addr).add j = ⟨W.heap.size, j, none⟩ := by unfold Addr.add; split <;> simp_all
      rw [ha, hj]; simpa using hu) h1 h63 hbytes (by simp; omega)
  refine ⟨v', w', hrun, h2, ?_, by simpa using h5⟩
  exact ⟨h3.os, h3.tape, h3.output, Nat.le_trans (by simp) h3.size, fun k hk hne => (h3.block k (by simp; omega) hne).trans (Below.heap_alloc W _ k hk)⟩
theorem keep_grown {g : Nat} {a w w' : World} {row : Option Nat} (h : Keep g a w) (k : w.grownBy w' row) (hr : ∀ q, row = some q → a.heap.size ≤ q) : Keep g a w' :=
  ⟨k.os.trans h.os, k.tape.trans h.tape, k.output.trans h.output, Nat.le_trans h.size k.size, fun i hi hn => (k.block i (Nat.lt_of_lt_of_le hi h.size) (fun e => by have := hr i e.symm; omega)).trans (h.block i hi hn)⟩
theorem EB : Elem Try.prog 63 5 (.int .u8 0) 1 1 := ⟨Try.underlying63, by kernel_rfl, rfl, by omega⟩
theorem own_emptyB (w : World) (e : TypeId) (size : Nat) : (w.alloc (.cells #[] e)).ownsRow w.heap.size e size (.slice (some ⟨w.heap.size, 0, none⟩) 0 0) 0 [] :=
  ⟨by simp, .inr ⟨w.heap.size, 0, #[], rfl, Nat.le_refl _, heap_alloc_new w _, by omega, by simp [maxLen], by simp, by simp⟩⟩
/-- the code that is drawn from -/
def Drawn (w : World) (v : Value) (bs : List Int) : Prop := Row w v 1 bs.length (bs.map (Value.int .u8)) ∧ ∀ x ∈ bs, 0 ≤ x ∧ x ≤ 255
theorem Drawn.below {w w' : World} {v : Value} {bs : List Int} (h : Drawn w v bs) (k : Below w.heap.size w w') : Drawn w' v bs := ⟨h.1.below k, h.2⟩
set_option maxRecDepth 100000 in
set_option maxHeartbeats 1600000 in
theorem new_any {w : World} {v : Value} {bs : List Int} (h : Drawn w v bs) (hm : bs.length ≤ 1048576) :
    Calls Try.prog 94 #[v] w fun e w' => e = .returned (.pointer (some ⟨w.heap.size, 0, none⟩)) ∧ Cur w' (.pointer (some ⟨w.heap.size, 0, none⟩)) w.heap.size ∧ Below w.heap.size w w' := by
  obtain ⟨⟨A, cap, rfl, -, hn, hnc, hcm, ha⟩, hbs⟩ := h
  replace hbs := Lib.hid hbs
  have ha' := Lib.hid ha
  go_enter Try.func94, Try.ntmps94
  go_wp2
  go_loopw [3, 4] (fun h i wr => ∃ (k : Nat) (z : Int), k ≤ bs.length ∧ i = .int .i64 k ∧ h = .int .i64 z ∧ wr = w) (fun _ i _ => bs.length - (intOf i).toNat)
  case atStart => exact ⟨0, _, by omega, rfl, rfl, rfl⟩
  case round =>
    obtain ⟨k, z, hk, rfl, rfl, rfl⟩ := hrel
    by_cases hlt : k < bs.length ∧ k < 4000
    · obtain ⟨h1, h2⟩ := hlt
      obtain ⟨b, off, rfl, hb, hc⟩ := ha (by omega)
      have c0 := hc k (.int .u8 bs[k]) (by simp [h1])
      have hx := hbs.out _ (List.getElem_mem h1)
      generalize bs[k] = y at c0 hx
      clear hc ha
      have i0 : (0 : Int) ≤ (k : Int) := by omega
      have i1 : (k : Int) < (bs.length : Int) := by omega
      go_wp2
      go_roundw
      case rel => exact ⟨k + 1, _, by omega, by go_num, rfl, by trivial⟩
      case measure => simp [intOf]; omega
    · have hfin : ∀ z1 : Int, Cur (wr.alloc (.cells #[.slice A bs.length cap, .int .i64 0, .int .i64 z1] 132)) (.pointer (some ⟨wr.heap.size, 0, none⟩)) wr.heap.size := by
        intro z1
        refine ⟨rfl, A, bs.length, cap, 0, z1, bs, heap_alloc_new wr _, by omega, by omega, hnc, rfl, hbs.out, fun h0 => ?_⟩
        obtain ⟨b, off, e, hb, hc⟩ := ha'.out h0
        refine ⟨b, off, e, hb, fun j hj => ?_⟩
        rw [((Below.refl wr.heap.size wr).alloc (Nat.le_refl _) _).cell (p := ⟨b, off + j, none⟩) hb]
        exact hc j _ (by simp [hj])
      replace hfin := Lib.hid hfin
      have hbl := (Below.refl wr.heap.size wr).alloc (Nat.le_refl _) (.cells #[.slice A bs.length cap, .int .i64 0, .int .i64 z] 132)
      clear ha ha'
      by_cases h1 : k < bs.length
      · have d2 : decide ((k : Int) < 4000) = false := by simp; omega
        go_wp2
        go_ret
        exact ⟨rfl, hfin.out z, hbl⟩
      · have d1 : decide ((k : Int) < (bs.length : Int)) = false := by simp; omega
        go_wp2
        go_ret
        exact ⟨rfl, hfin.out z, hbl⟩
/-- calls behind the new cursor: below all lies as it was -/
theorem below_of_keep {w w1 w2 : World} (h : Below w.heap.size w w1) (k : Keep w.heap.size w1 w2) (hs : w.heap.size ≤ w1.heap.size) : Below w.heap.size w w2 :=
  h.trans ⟨k.os, k.tape, k.output, k.size, fun i hi => k.block i (by omega) (by intro e; injection e; omega)⟩
theorem big_any {w : World} {v : Value} {bs : List Int} (h : Drawn w v bs) : Calls Try.prog 47 #[v] w fun e w' => e = .returned (.bool (decide ((1048576 : Int) < (bs.length : Int)))) ∧ w = w' := by
  obtain ⟨⟨A, cap, rfl, -, hn, hnc, hcm, -⟩, -⟩ := h
  go_enter Try.func47, Try.ntmps47
  go_wp2
  go_ret
  exact ⟨rfl, rfl⟩
end Go.Proofs.Ytlakellmdcdaaaa.Draw

/-
  The contracts of the laws' helpers over nodes: counted, copied, compared.
  Conditions: the slices read as lists of nodes.
-/
import Derived.Test.YtfhigagbipkipaaInts
import Derived.Test.YtfhigagbipkipaaState
import Derived.Test.YtfhigagbipkipaaStrs
import Derived.Test.YtfhigagbipkipaaOwns
import Derived.Test.YtfhigagbipkipaaRecs
import Derived.Test.YtfhigagbipkipaaBlocks
namespace Go.Proofs.Ytfhigagbipkipaa.Nodes
open Go.RowKit Go.Proofs.Ytfhigagbipkipaa.Row Go.Proofs.Ytfhigagbipkipaa.Mem Go.Proofs.Ytfhigagbipkipaa.Mix Go.Proofs.Ytfhigagbipkipaa.Ints Go.Proofs.Ytfhigagbipkipaa.Recs Go.Proofs.Ytfhigagbipkipaa.Owns Go.Proofs.Ytfhigagbipkipaa.Blocks
/-- a node as it lies -/
structure N where
  k : Int
  t : ByteArray
  v : Value
  kids : List Int
  b : Bool
def N.cells (x : N) : List Value := [.int .i64 x.k, .string x.t, x.v, .bool x.b]
abbrev N.val (x : N) : Value := .agg #[.int .i64 x.k, .string x.t, x.v, .bool x.b]
abbrev cs (xs : List N) : List Value := xs.flatMap N.cells
def N.abs (x : N) : Int × ByteArray × List Int × Bool := (x.k, x.t, x.kids, x.b)
abbrev VRow (w : World) (x : N) : Prop := Row w x.v 1 x.kids.length (ints x.kids)
def NRow (w : World) (v : Value) (xs : List N) : Prop := Row w v 4 xs.length (cs xs) ∧ ∀ x ∈ xs, VRow w x
theorem NRow.below {w w' : World} {v : Value} {xs : List N} (h : NRow w v xs) (hb : Below w.heap.size w w') : NRow w' v xs := ⟨h.1.below hb, fun x hx => (h.2 x hx).below hb⟩
theorem cells_len (x : N) : x.cells.length = 4 := rfl
theorem cells_ {w : World} {b off : Nat} {xs : List N} (hc : ∀ j u, (cs xs)[j]? = some u → w.cell? ⟨b, off + j, none⟩ = some u) {i : Nat} (h : i < xs.length) :
    w.cell? ⟨b, off + i * 4, none⟩ = some (.int .i64 xs[i].k) ∧ w.cell? ⟨b, off + i * 4 + 1, none⟩ = some (.string xs[i].t) ∧ w.cell? ⟨b, off + i * 4 + 2, none⟩ = some xs[i].v ∧ w.cell? ⟨b, off + i * 4 + 3, none⟩ = some (.bool xs[i].b) :=
  ⟨hc _ _ (flat_at cells_len xs i 0 h (by omega)), hc _ _ (flat_at cells_len xs i 1 h (by omega)), hc _ _ (flat_at cells_len xs i 2 h (by omega)), hc _ _ (flat_at cells_len xs i 3 h (by omega))⟩
theorem E : Elem Try.prog 36 66 (.agg #[.int .i64 0, .string ByteArray.empty, .slice none 0 0, .bool false]) 4 56 := ⟨Try.underlying36, by kernel_rfl, rfl, by omega⟩
theorem lit {w : World} {x : N} (h : VRow w x) : ∃ A l, x.v = .slice A x.kids.length l := by obtain ⟨A, l, h, -⟩ := h; exact ⟨_, _, h⟩
/-- its size -/
def N.size (x : N) : Nat := x.t.size + x.kids.length
def sz1 (x : N) (left : Int) : Int := if (x.size : Int) ≤ left then left - (x.size : Int) else -1
set_option maxRecDepth 100000 in
set_option maxHeartbeats 800000 in
theorem sz_one {x : N} {w : World} (hx : VRow w x) (hs : x.t.size ≤ maxLen) (left : Int) (h0 : 0 ≤ left) (hm : left ≤ 1048576) :
    Calls Try.prog 37 #[x.val, .int .i64 left] w fun e w' => e = .returned (.int .i64 (sz1 x left)) ∧ Below w.heap.size w w' := by
  simp only [maxLen] at hs
  obtain ⟨A, l, hv⟩ := lit hx
  have hsz : Hid (x.size = x.t.size + x.kids.length) := Lib.hid rfl
  have hb := (Below.refl w.heap.size w).alloc (Nat.le_refl _) (.cells #[.int .i64 x.k, .string x.t, x.v, .bool x.b] 65)
  have hr := Lib.hid (hx.below hb)
  replace hb := Lib.hid hb
  clear hx
  unfold N.val
  rw [hv] at hr hb ⊢
  replace hv := Lib.hid hv
  by_cases h : (x.t.size : Int) ≤ left
  · have d : decide (left - (x.t.size : Int) < 0) = false := by simp; omega
    have hc := Lib.hid (State.szInts_any hr.out (left - (x.t.size : Int)) (by omega) (by omega))
    rcases State.szi_cases x.kids.length (left - (x.t.size : Int)) (by omega) with ⟨q, hq, q0, q1, q2⟩ | hq
    · rw [hq] at hc
      have d2 : decide (q < 0) = false := by simp; omega
      have hres := Lib.hid (show sz1 x left = q by unfold sz1; rw [hsz.out, if_pos (by omega)]; unfold State.szi at hq; rw [if_pos q2] at hq; omega)
      replace hq := Lib.hid hq
      go_enter Try.func37, Try.ntmps37
      go_wp2_with fail
      refine hc.out.mono ?_
      rintro e w1 ⟨rfl, rfl⟩
      go_wp2
      go_ret
      exact ⟨by rw [hres.out]; rfl, hb.out⟩
    · rw [hq] at hc
      have hres := Lib.hid (show sz1 x left = -1 by unfold sz1; rw [hsz.out, if_neg]; unfold State.szi at hq; split at hq <;> omega)
      replace hq := Lib.hid hq
      go_enter Try.func37, Try.ntmps37
      go_wp2_with fail
      refine hc.out.mono ?_
      rintro e w1 ⟨rfl, rfl⟩
      go_wp2
      go_ret
      exact ⟨by rw [hres.out]; rfl, hb.out⟩
  · have d : decide (left - (x.t.size : Int) < 0) = true := by simp; omega
    have hres := Lib.hid (show sz1 x left = -1 by unfold sz1; rw [hsz.out, if_neg (by omega)])
    go_enter Try.func37, Try.ntmps37
    go_wp2
    go_ret
    exact ⟨by rw [hres.out]; rfl, hb.out⟩
set_option maxRecDepth 100000 in
set_option maxHeartbeats 1600000 in
theorem to_one {x : N} {w : World} (hx : VRow w x) (hb8 : x.kids.length * 8 ≤ 140737488355328) :
    Calls Try.prog 38 #[x.val] w fun e w' => ∃ g, e = .returned (.agg #[.int .i64 x.k, .string x.t, .slice (some ⟨g, 0, none⟩) x.kids.length x.kids.length, .bool x.b]) ∧ w.heap.size ≤ g ∧
      Own w' (.slice (some ⟨g, 0, none⟩) x.kids.length x.kids.length) 3 1 g x.kids.length (ints x.kids) ∧ Below w.heap.size w w' := by
  obtain ⟨A, l, hv⟩ := lit hx
  unfold N.val
  rw [hv]
  unfold VRow at hx
  rw [hv] at hx
  replace hv := Lib.hid hv
  have hr : ∀ o o2 o3, Row (((w.alloc o).alloc o2).alloc o3) (.slice A x.kids.length l) 1 x.kids.length (ints x.kids) := fun o o2 o3 => hx.below (below3 w o o2 o3)
  have hc := Lib.hid (fun (o o2 o3 : Obj) => Ints.to_any (hr o o2 o3) hb8)
  clear hr hx
  go_enter Try.func38, Try.ntmps38
  go_wp2_with fail
  refine (hc.out _ _ _).mono ?_
  rintro e w1 ⟨rfl, hown, hb⟩
  obtain ⟨k0, k1, k2, hsz⟩ := three w (.cells #[.int .i64 x.k, .string x.t, .slice A x.kids.length l, .bool x.b] 65) (.cells #[.int .i64 0, .string ⟨#[]⟩, .slice none 0 0, .bool false] 66) (.cells #[.int .i64 x.k, .string x.t, .slice none 0 0, .bool false] 66)
  generalize hW : ((w.alloc _).alloc _).alloc _ = W at hown hb
  have hbw : Below w.heap.size w W := by rw [← hW]; exact below3 w _ _ _
  rw [hW] at k0 k1 k2 hsz
  rw [← hb.block _ (by omega)] at k0 k1 k2
  obtain ⟨a0, a1, a2, a3⟩ := blk4 k0
  obtain ⟨c0, c1, c2, c3⟩ := blk4 k1
  obtain ⟨d0, d1, d2, d3⟩ := blk4 k2
  have f1 : ∀ j, w1.frozen? ⟨w.heap.size + 1, j, none⟩ = false := frz k1
  have f2 : ∀ j, w1.frozen? ⟨w.heap.size + 1 + 1, j, none⟩ = false := frz k2
  have hn1 : w.heap.size + 1 ≠ W.heap.size := by omega
  have hn2 : w.heap.size + 1 + 1 ≠ W.heap.size := by omega
  have hge : w.heap.size ≤ W.heap.size := by omega
  have hB := Lib.hid (hbw.trans (hb.mono hge))
  replace hown := Lib.hid hown
  clear k0 k1 k2 hW hc hb hbw hsz
  go_wp2
  refine bodyPost_ret (v := .agg #[.int .i64 x.k, .string x.t, .slice (some ⟨W.heap.size, 0, none⟩) x.kids.length x.kids.length, .bool x.b]) (by simp [results, Try.results38, go_sem, c0, c1, c2, c3]) rfl ⟨_, rfl, hge, ?_, ?_⟩
  · repeat (first | (with_reducible exact hown.out) | refine Own.setCell ?_ (by simp <;> omega) _)
  · repeat (first | (with_reducible exact hB.out) | refine Below.setCell ?_ (by simp <;> omega) _)
set_option maxRecDepth 100000 in
set_option maxHeartbeats 1600000 in
theorem eq_one {x y : N} {w : World} (hx : VRow w x) (hy : VRow w y) (hab : x.abs = y.abs) :
    Calls Try.prog 42 #[x.val, y.val] w fun e w' => e = .returned (.bool true) ∧ Below w.heap.size w w' := by
  obtain ⟨xk, xt, xv, xl, xb⟩ := x
  obtain ⟨yk, yt, yv, yl, yb⟩ := y
  simp only [N.abs, Prod.mk.injEq] at hab
  obtain ⟨rfl, rfl, rfl, rfl⟩ := hab
  obtain ⟨A, l, h1, -⟩ := id hx
  obtain ⟨A2, l2, h2, -⟩ := id hy
  simp only at h1 h2
  subst h1 h2
  unfold VRow at hx hy
  simp only at hx hy
  have hc := Lib.hid (fun (o o2 : Obj) => State.eqInts_self (hx.below (below2 w o o2)) (hy.below (below2 w o o2)))
  have e1 : (xk != xk) = false := by simp
  have e2 : (xt.toList == xt.toList) = true := by simp
  have e3 : (xb != xb) = false := by simp
  have e4 : (xb == xb) = true := by simp
  clear hx hy
  go_enter Try.func42, Try.ntmps42
  go_wp2_with fail
  refine (hc.out _ _).mono ?_
  rintro e w1 ⟨rfl, hb⟩
  obtain ⟨k0, k1, hsz⟩ := two w (.cells #[.int .i64 xk, .string xt, .slice A xl.length l, .bool xb] 66) (.cells #[.int .i64 xk, .string xt, .slice A2 xl.length l2, .bool xb] 66)
  rw [← hb.block _ (by omega)] at k0 k1
  obtain ⟨a0, a1, a2, a3⟩ := blk4 k0
  obtain ⟨c0, c1, c2, c3⟩ := blk4 k1
  have hB := Lib.hid ((below2 w _ _).trans (hb.mono (by omega)))
  clear k0 k1 hsz hc hb
  go_wp2
  go_ret
  exact ⟨rfl, hB.out⟩
theorem abs_len {xs ys : List N} (h : xs.map N.abs = ys.map N.abs) : xs.length = ys.length := by simpa using congrArg List.length h
theorem abs_get {xs ys : List N} (h : xs.map N.abs = ys.map N.abs) {k : Nat} (h1 : k < xs.length) (h2 : k < ys.length) : xs[k].abs = ys[k].abs := by
  have := congrArg (fun l => l[k]?) h
  simpa [h1, h2] using this
theorem nrow_of {w : World} {v : Value} {e g n : Nat} {ys : List N} (o : Own w v e 4 g n (cs ys)) (hl : ys.length = n) (p : ∀ x ∈ ys, VRow w x) : NRow w v ys := by
  subst hl; exact ⟨o.row, p⟩
set_option maxRecDepth 100000 in
set_option maxHeartbeats 1600000 in
theorem to_any {v : Value} {xs : List N} {w : World} (h1 : NRow w v xs) (hb8 : xs.length * 56 ≤ 140737488355328) (hv8 : ∀ x ∈ xs, x.kids.length * 8 ≤ 140737488355328) :
    Calls Try.prog 18 #[v] w fun e w' => ∃ ys, e = .returned (.slice (some ⟨w.heap.size, 0, none⟩) xs.length xs.length) ∧ ys.map N.abs = xs.map N.abs ∧
      NRow w' (.slice (some ⟨w.heap.size, 0, none⟩) xs.length xs.length) ys ∧ Below w.heap.size w w' := by
  have hrows := Lib.hid h1.2
  obtain ⟨⟨A, c, rfl, -, hn, hnc, hcm, ha⟩, -⟩ := h1
  have hmk : ∀ W, (Instr.makeSlice 36 (.int .i64 (xs.length : Int)) (.int .i64 (xs.length : Int))).run Try.prog W = .ok (.slice (some ⟨W.heap.size, 0, none⟩) xs.length xs.length) (W.alloc (.cells (madeCells #[.int .i64 0, .string ByteArray.empty, .slice none 0 0, .bool false] (xs.length * 4)) 66)) := fun W =>
    make_run E xs.length xs.length (by omega) (by omega) (by simp only [maxLen]; omega) W
  go_enter Try.func18, Try.ntmps18
  go_wp2
  go_loopw [4] (fun i wr => ∃ (k : Nat) (ys : List N), k ≤ xs.length ∧ i = .int .i64 k ∧ Hid (ys.map N.abs = (xs.take k).map N.abs) ∧ Fill wr w.heap.size 66 4 xs.length k (cs ys) ∧ Hid (∀ y ∈ ys, ∃ g, w.heap.size < g ∧ Own wr y.v 3 1 g y.kids.length (ints y.kids)) ∧ Below w.heap.size w wr) (fun i _ => xs.length - (intOf i).toNat)
  case atStart => exact ⟨0, [], by omega, rfl, Lib.hid rfl, Fill.made w _ (by simp [madeCells]), Lib.hid (by simp), (Below.refl _ _).alloc (Nat.le_refl _) _⟩
  case round =>
    obtain ⟨k, ys, hk, rfl, hab, hf, hown, hbw⟩ := hrel
    by_cases hlt : k < xs.length
    · obtain ⟨b, off, rfl, hb, hc⟩ := ha (by omega)
      obtain ⟨c0, c1, c2, c3⟩ := cells_ (fun j u hu => (cells_of hbw b _ hb).trans (hc j u hu)) hlt
      have hvr : VRow wr xs[k] := (hrows.out _ (List.getElem_mem hlt)).below hbw
      have hv := hv8 _ (List.getElem_mem hlt)
      clear hc hv8
      have hcall := Lib.hid (to_one hvr hv)
      obtain ⟨A1, l1, hvv⟩ := lit hvr
      unfold N.val at hcall
      rw [hvv] at c2 hcall
      replace hvv := Lib.hid hvv
      clear hvr
      go_wp2_with fail
      refine hcall.out.mono ?_
      rintro e w2 ⟨g, rfl, hg, hg1, hb2⟩
      have hs1 : w.heap.size < wr.heap.size := hf.lt
      have hf2 := hf.below hb2
      have hbw2 := hbw.trans (hb2.mono hbw.size)
      have hgne : w.heap.size ≠ g := by omega
      obtain ⟨y, hy⟩ : ∃ y : N, y = ⟨xs[k].k, xs[k].t, .slice (some ⟨g, 0, none⟩) xs[k].kids.length xs[k].kids.length, xs[k].kids, xs[k].b⟩ := ⟨_, rfl⟩
      have hown2 : Hid (∀ z ∈ ys ++ [y], ∃ g, w.heap.size < g ∧ Own w2 z.v 3 1 g z.kids.length (ints z.kids)) := Lib.hid (by
        intro z hz
        rcases List.mem_append.1 hz with hz | hz
        · obtain ⟨q, hq1, hq2⟩ := hown.out z hz
          exact ⟨q, hq1, hq2.below hb2⟩
        · rw [List.mem_singleton] at hz
          subst hz
          subst hy
          exact ⟨g, by omega, hg1⟩)
      clear hf hbw hb2 c0 c1 c2 c3 hown hg1
      obtain ⟨u0, e0⟩ := hf2.cell (j := k * 4) (by omega)
      obtain ⟨u1, e1⟩ := hf2.cell (j := k * 4 + 1) (by omega)
      obtain ⟨u2, e2⟩ := hf2.cell (j := k * 4 + 2) (by omega)
      obtain ⟨u3, e3⟩ := hf2.cell (j := k * 4 + 3) (by omega)
      have f0 := hf2.frozen (k * 4)
      have f1 := hf2.frozen (k * 4 + 1)
      have f2 := hf2.frozen (k * 4 + 2)
      have f3 := hf2.frozen (k * 4 + 3)
      have hyc : Hid (y.cells = [.int .i64 xs[k].k, .string xs[k].t, .slice (some ⟨g, 0, none⟩) xs[k].kids.length xs[k].kids.length, .bool xs[k].b]) := Lib.hid (by subst hy; rfl)
      have hon := Lib.hid (show (ys ++ [y]).map N.abs = (xs.take (k + 1)).map N.abs by
        rw [List.take_succ_eq_append_getElem hlt, List.map_append, List.map_append, hab.out]; subst hy; rfl)
      have hst := hf2.put hlt y.cells rfl
      rw [← show cs (ys ++ [y]) = cs ys ++ y.cells by simp [cs]] at hst
      have hwb := below_setAll (g := w.heap.size) y.cells (k * 4) hbw2 (Nat.le_refl _)
      have hown3 : ∀ z ∈ ys ++ [y], ∃ g, w.heap.size < g ∧ Own (setAll w2 w.heap.size (k * 4) y.cells) z.v 3 1 g z.kids.length (ints z.kids) := by
        intro z hz
        obtain ⟨q, hq1, hq2⟩ := hown2.out z hz
        exact ⟨q, hq1, hq2.block ((grown_setAll (g := w.heap.size) y.cells (k * 4) (World.grownBy.refl w2 _)).block q hq2.lt (fun e => by injection e with e; omega))⟩
      rw [hyc.out] at hst hwb hown3
      replace hst := Lib.hid hst
      replace hwb := Lib.hid hwb
      replace hown3 := Lib.hid hown3
      clear hf2 hbw2 hown2 hcall hyc hy
      go_wp2
      exact ⟨⟨k + 1, ys ++ [y], by omega, by go_num, hon, hst.out, hown3, hwb.out⟩, by simp [intOf]; omega⟩
    · obtain rfl : k = xs.length := by omega
      have hd := hf.done (by omega)
      rw [List.take_length] at hab
      have hl : ys.length = xs.length := abs_len hab.out
      have hfin := Lib.hid (nrow_of hd hl (fun x hx => by obtain ⟨g, -, hg⟩ := hown.out x hx; exact hg.row))
      clear hd hl
      go_wp2
      go_ret
      exact ⟨ys, rfl, hab.out, hfin.out, hbw⟩
set_option maxRecDepth 100000 in
set_option maxHeartbeats 1600000 in
theorem eq_self {v1 v2 : Value} {xs ys : List N} {w : World} (h1 : NRow w v1 xs) (h2 : NRow w v2 ys) (hab : xs.map N.abs = ys.map N.abs) :
    Calls Try.prog 20 #[v1, v2] w fun e w' => e = .returned (.bool true) ∧ Below w.heap.size w w' := by
  have hl := abs_len hab
  replace hab := Lib.hid hab
  have hr1 := Lib.hid h1.2
  have hr2 := Lib.hid h2.2
  obtain ⟨⟨A, c, rfl, -, hn, hnc, hcm, ha⟩, -⟩ := h1
  obtain ⟨⟨A2, c2, rfl, -, hn2, hnc2, hcm2, ha2⟩, -⟩ := h2
  have d1 : (xs.length == ys.length) = true := by simpa using hl
  have d2 : (xs.length != ys.length) = false := by simpa using hl
  have d3 : ((xs.length : Int) != (ys.length : Int)) = false := by simp; omega
  have hle : xs.length ≤ ys.length := by omega
  have hge : ys.length ≤ xs.length := by omega
  clear hl
  go_enter Try.func20, Try.ntmps20
  go_wp2
  go_loopw [5] (fun i wr => ∃ k : Nat, k ≤ xs.length ∧ i = .int .i64 k ∧ Below w.heap.size w wr) (fun i _ => xs.length - (intOf i).toNat)
  case atStart => exact ⟨0, by omega, rfl, Below.refl _ _⟩
  case round =>
    obtain ⟨k, hk, rfl, hbw⟩ := hrel
    by_cases hlt : k < xs.length
    · have hlt2 : k < ys.length := by omega
      obtain ⟨b, off, rfl, hb, hc⟩ := ha (by omega)
      obtain ⟨b2, off2, rfl, hb2, hc2⟩ := ha2 (by omega)
      obtain ⟨p0, p1, p2, p3⟩ := cells_ (fun j u hu => (cells_of hbw b _ hb).trans (hc j u hu)) hlt
      obtain ⟨q0, q1, q2, q3⟩ := cells_ (fun j u hu => (cells_of hbw b2 _ hb2).trans (hc2 j u hu)) hlt2
      have hv1 := (hr1.out _ (List.getElem_mem hlt)).below hbw
      have hv2 := (hr2.out _ (List.getElem_mem hlt2)).below hbw
      have hcall := Lib.hid (fun (W : World) (hW : Below wr.heap.size wr W) => eq_one (x := xs[k]) (y := ys[k]) (hv1.below hW) (hv2.below hW) (abs_get hab.out hlt hlt2))
      obtain ⟨A1, l1, hvv⟩ := lit hv1
      obtain ⟨A3, l3, hvv2⟩ := lit hv2
      unfold N.val at hcall
      rw [hvv] at p2 hcall
      rw [hvv2] at q2 hcall
      clear hc hc2 ha ha2 hvv hvv2 hv1 hv2
      have i0 : (0 : Int) ≤ (k : Int) := by omega
      have i1 : (k : Int) < (xs.length : Int) := by omega
      have i2 : (k : Int) < (ys.length : Int) := by omega
      have z1 := Nat.lt_of_lt_of_le hb hbw.size
      have z2 := Nat.lt_of_lt_of_le hb2 hbw.size
      go_wp2
      refine wp_region_below [(0, true), (1, true), (2, true), (3, true), (4, true), (5, true), (6, true), (7, true), (8, false), (9, false)] (by kernel_rfl) (by kernel_rfl) (fun d _ _ _ _ h => by cases d <;> exact h) ?_
      repeat
       (refine mix_still rfl (by rfl) ?_
        apply Exists.intro
        refine ⟨fun w' hS => ?_, ?_⟩
        · (have hS' := cells_of hS; clear hS; go_simp; (try go_bits); first | with_reducible rfl | (refine (if_pos ?_).trans ?_; omega; with_reducible rfl))
        (go_simp; (try go_bits)))
      refine mix_loud rfl (fun K hK => ?_)
      (go_simp; (try go_bits))
      refine (hcall.out _ (to_drew _ _)).mono ?_
      rintro _ w1 ⟨rfl, hb1⟩
      replace hb1 := of_drew hb1
      refine hK _ _ (fun _ => hb1) ?_
      clear hK K
      (go_simp; (try go_bits))
      refine mix_loud rfl (fun K hK => ?_)
      (go_simp; (try go_bits))
      refine hK _ _ (no_need (by kernel_rfl)) ?_
      clear hK K
      try (go_simp; (try go_bits))
      refine mix_nil ?_
      have hbx := hbw.trans (hb1.mono hbw.size)
      clear p0 p1 p2 p3 q0 q1 q2 q3
      go_wp2
      go_roundw
      case rel => exact ⟨k + 1, by omega, by go_num, hbx⟩
      case measure => simp [intOf]; omega
    · go_wp2
      go_ret
      exact ⟨rfl, hbw⟩
def tot (xs : List N) : Nat := (xs.map N.size).sum
theorem tot_snoc (xs : List N) (s : N) : tot (xs ++ [s]) = tot xs + s.size := by simp [tot]
theorem tot_take (xs : List N) (k : Nat) : tot (xs.take k) ≤ tot xs := by
  induction xs generalizing k with
  | nil => simp [tot]
  | cons a xs ih => cases k with
    | zero => simp [tot]
    | succ k => have := ih k; simp only [tot, List.take_succ_cons, List.map_cons, List.sum_cons] at this ⊢; omega
theorem tot_mem {xs : List N} {x : N} (h : x ∈ xs) : x.kids.length ≤ tot xs := by
  induction xs with
  | nil => simp at h
  | cons a xs ih =>
    simp only [tot, List.map_cons, List.sum_cons] at ih ⊢
    rcases List.mem_cons.1 h with rfl | h
    · unfold N.size; omega
    · have := ih h; omega
def sz (xs : List N) (left : Int) : Int := if (xs.length : Int) + (tot xs : Int) ≤ left then left - (xs.length : Int) - (tot xs : Int) else -1
theorem sz_cases (xs : List N) (left : Int) (h0 : 0 ≤ left) : (∃ r : Int, sz xs left = r ∧ 0 ≤ r ∧ r ≤ left ∧ (xs.length : Int) ≤ left ∧ (tot xs : Int) ≤ left) ∨ sz xs left = -1 := by
  unfold sz
  split
  · exact .inl ⟨_, rfl, by omega, by omega, by omega, by omega⟩
  · exact .inr rfl
set_option maxRecDepth 100000 in
set_option maxHeartbeats 1600000 in
theorem sz_any {v : Value} {xs : List N} {w : World} (h1 : NRow w v xs) (hs : ∀ x ∈ xs, x.t.size ≤ maxLen) (left : Int) (h0 : 0 ≤ left) (hm : left ≤ 1048576) :
    Calls Try.prog 16 #[v, .int .i64 left] w fun e w' => e = .returned (.int .i64 (sz xs left)) ∧ Below w.heap.size w w' := by
  have hrows := Lib.hid h1.2
  obtain ⟨⟨A, c, rfl, -, hn, hnc, hcm, ha⟩, -⟩ := h1
  by_cases hl : (xs.length : Int) ≤ left
  · have d1 : decide (left - (xs.length : Int) < 0) = false := by simp; omega
    go_enter Try.func16, Try.ntmps16
    go_wp2
    go_loopw [1, 5] (fun l i wr => ∃ k : Nat, k ≤ xs.length ∧ i = .int .i64 k ∧ l = .int .i64 (left - (xs.length : Int) - (tot (xs.take k) : Int)) ∧ 0 ≤ left - (xs.length : Int) - (tot (xs.take k) : Int) ∧ Below w.heap.size w wr) (fun _ i _ => xs.length - (intOf i).toNat)
    case atStart => exact ⟨0, by omega, rfl, by simp [tot], by simp [tot]; omega, Below.refl _ _⟩
    case round =>
      obtain ⟨k, hk, rfl, rfl, hle, hbw⟩ := hrel
      by_cases hlt : k < xs.length
      · obtain ⟨b, off, rfl, hb, hc⟩ := ha (by omega)
        obtain ⟨p0, p1, p2, p3⟩ := cells_ (fun j u hu => (cells_of hbw b _ hb).trans (hc j u hu)) hlt
        have hvr : VRow wr xs[k] := (hrows.out _ (List.getElem_mem hlt)).below hbw
        have hon := Lib.hid (show tot (xs.take (k + 1)) = tot (xs.take k) + xs[k].size by rw [List.take_succ_eq_append_getElem hlt, tot_snoc])
        have ht := tot_take xs (k + 1)
        rw [hon.out] at ht
        have hsx := hs _ (List.getElem_mem hlt)
        clear hc ha hs
        generalize tot (xs.take k) = t at *
        have hc1 := Lib.hid (sz_one hvr hsx (left - (xs.length : Int) - (t : Int)) hle (by omega))
        obtain ⟨A1, l1, hvv⟩ := lit hvr
        unfold N.val at hc1
        rw [hvv] at p2 hc1
        replace hvv := Lib.hid hvv
        clear hvr hsx
        by_cases hneg : (xs[k].size : Int) ≤ left - (xs.length : Int) - (t : Int)
        · rw [show sz1 xs[k] (left - (xs.length : Int) - (t : Int)) = left - (xs.length : Int) - (t : Int) - (xs[k].size : Int) by unfold sz1; rw [if_pos hneg]] at hc1
          have d2 : decide (left - (xs.length : Int) - (t : Int) - (xs[k].size : Int) < 0) = false := by simp; omega
          clear ht
          go_wp2_with fail
          refine hc1.out.mono ?_
          rintro e w2 ⟨rfl, hb2⟩
          have hbx := hbw.trans (hb2.mono hbw.size)
          clear p0 p1 p2 p3 hc1
          go_wp2
          go_roundw
          case rel => exact ⟨k + 1, by omega, by go_num, by rw [hon.out]; go_num, by rw [hon.out]; omega, hbx⟩
          case measure => simp [intOf]; omega
        · rw [show sz1 xs[k] (left - (xs.length : Int) - (t : Int)) = -1 by unfold sz1; rw [if_neg hneg]] at hc1
          have hv := Lib.hid (show sz xs left = -1 by unfold sz; rw [if_neg (by omega)])
          clear ht
          go_wp2_with fail
          refine hc1.out.mono ?_
          rintro e w2 ⟨rfl, hb2⟩
          have hbx := hbw.trans (hb2.mono hbw.size)
          clear p0 p1 p2 p3 hc1
          go_wp2
          go_ret
          exact ⟨by rw [hv.out]; rfl, hbx⟩
      · have hv := Lib.hid (show sz xs left = left - (xs.length : Int) - (tot (xs.take k) : Int) by
          rw [List.take_of_length_le (by omega)] at hle ⊢
          unfold sz; rw [if_pos (by omega)])
        go_wp2
        go_ret
        exact ⟨by rw [hv.out]; rfl, hbw⟩
  · have hv := Lib.hid (show sz xs left = -1 by unfold sz; rw [if_neg (by omega)])
    have d1 : decide (left - (xs.length : Int) < 0) = true := by simp; omega
    go_enter Try.func16, Try.ntmps16
    go_wp2
    go_ret
    exact ⟨by rw [hv.out]; rfl, Below.refl _ _⟩
end Go.Proofs.Ytfhigagbipkipaa.Nodes

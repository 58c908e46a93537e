/-
  The contract of the reference's draw of a right piece, l08Piece.
  Conditions: the code that is drawn from reads as bytes.
-/
import Derived.Test.YtlakellmdcdaaaaPick
import Derived.Test.YtlakellmdcdaaaaPc4e
namespace Go.Proofs.Ytlakellmdcdaaaa.Draw
open Go.RowKit Go.Proofs.Ytlakellmdcdaaaa.Row Go.Proofs.Ytlakellmdcdaaaa.Mem Go.Proofs.Ytlakellmdcdaaaa.Mix Go.Proofs.Ytlakellmdcdaaaa.Owns Go.Proofs.Ytlakellmdcdaaaa.Blocks Go.Proofs.Ytlakellmdcdaaaa.Piece Go.Proofs.Ytlakellmdcdaaaa.Pc
/-- rows of another type lie elsewhere -/
theorem own_ne {w : World} {b e e2 size n q : Nat} {v : Value} {xs : List Value} {arr : Array Value} {fr : Nat × Nat} (h : w.ownsRow b e size v n xs) (hq : w.heap[q]? = some (.cells arr e2 fr)) (hne : e ≠ e2) : v.ownBlock ≠ some q := by
  intro hv
  rcases h.2 with ⟨rfl, _⟩ | ⟨g, cap, cur, rfl, hb, hg, _⟩
  · cases hv
  · have hv : g = q := by injection hv
    subst hv
    rw [hq] at hg
    injection hg with hg
    injection hg with _ hg
    exact hne hg.symm
theorem own_two {w : World} {b1 b2 e1 e2 z1 z2 n1 n2 : Nat} {v1 v2 : Value} {xs ys : List Value} (h1 : w.ownsRow b1 e1 z1 v1 n1 xs) (h2 : w.ownsRow b2 e2 z2 v2 n2 ys) (hne : e1 ≠ e2) : ∀ q, v1.ownBlock = some q → v2.ownBlock ≠ some q := by
  intro q hq
  rcases h1.2 with ⟨rfl, _⟩ | ⟨g, cap, cur, rfl, hb, hg, _⟩
  · cases hq
  · injection hq with hq
    subst hq
    exact own_ne h2 hg (fun e => hne e.symm)
/-- the state of the draw: the piece's block bp, the result's block R, four rows of the draw's own -/
structure PS (w0 w : World) (cv : Value) (g R bp : Nat) (p : P) (r c s t : Value) : Prop where
  cur : Cur w cv g
  keep : Keep g w0 w
  res : w.heap[R]? = some (.cells #[.int .i64 0, .slice none 0 0, .slice none 0 0, .slice none 0 0, .slice none 0 0] 35 (0, 0))
  blk : w.heap[bp]? = some (.cells #[.int .i64 p.ind, r, c, s, t] 35 (0, 0))
  o1 : w.ownsRow w0.heap.size 80 2 r p.rules.length (Rule.cs p.rules)
  o2 : w.ownsRow w0.heap.size 95 5 c p.chunks.length (Chunk.cs p.chunks)
  o3 : w.ownsRow w0.heap.size 98 3 s p.spans.length (Span.cs p.spans)
  o4 : w.ownsRow w0.heap.size 90 2 t p.ties.length (Tie.cs p.ties)
  hg : g < w0.heap.size
  hR : w0.heap.size ≤ R
  hbp : w0.heap.size ≤ bp
  hne : R ≠ bp
theorem PS.kept {w0 w w' : World} {cv : Value} {g R bp : Nat} {p : P} {r c s t : Value} (h : PS w0 w cv g R bp p r c s t) (c' : Cur w' cv g) (k : Keep g w w') : PS w0 w' cv g R bp p r c s t := by
  have lR := blk_lt h.res
  have lB := blk_lt h.blk
  have := h.hg; have := h.hR; have := h.hbp
  exact ⟨c', keep_trans h.keep k, (k.block R lR (fun e => by injection e; omega)).trans h.res, (k.block bp lB (fun e => by injection e; omega)).trans h.blk, own_keep h.o1 k h.hg, own_keep h.o2 k h.hg, own_keep h.o3 k h.hg, own_keep h.o4 k h.hg, h.hg, h.hR, h.hbp, h.hne⟩
theorem PS.below {w0 w w' : World} {cv : Value} {g R bp : Nat} {p : P} {r c s t : Value} (h : PS w0 w cv g R bp p r c s t) (k : Below w.heap.size w w') : PS w0 w' cv g R bp p r c s t :=
  ⟨h.cur.below k, keep_below h.keep k, blk_below h.res k, blk_below h.blk k, own_below h.o1 k, own_below h.o2 k, own_below h.o3 k, own_below h.o4 k, h.hg, h.hR, h.hbp, h.hne⟩
theorem PS.drew {w0 w : World} {cv : Value} {g R bp : Nat} {p : P} {r c s t : Value} (h : PS w0 w cv g R bp p r c s t) : PS w0 w.drew cv g R bp p r c s t := h.below (to_drew w _)
/-- a row grown, and laid into the piece's block -/
theorem PS.put1 {w0 w w' : World} {cv : Value} {g R bp : Nat} {p : P} {r c s t v' : Value} {x : Rule.T} (h : PS w0 w cv g R bp p r c s t) (hr : w.grownBy w' r.ownBlock) (hn : w'.ownsRow w0.heap.size 80 2 v' (p.rules ++ [x]).length (Rule.cs (p.rules ++ [x]))) :
    PS w0 (w'.setCell ⟨bp, 1, none⟩ v') cv g R bp { p with rules := p.rules ++ [x] } v' c s t := by
  have hq : ∀ q, r.ownBlock = some q → w0.heap.size ≤ q := fun q hq => (h.o1.lt q hq).1
  have hg := h.hg; have hR := h.hR; have hbp := h.hbp; have hne := h.hne
  have lR := blk_lt h.res
  have lB := blk_lt h.blk
  have c1 : Cur w' cv g := h.cur.grown hr (fun q e => by have := hq q e; omega)
  have k1 : Keep g w0 w' := keep_grown h.keep hr hq
  have r1 := (hr.block R lR (fun e => own_ne h.o1 h.res (by decide) e.symm)).trans h.res
  have b1 := (hr.block bp lB (fun e => own_ne h.o1 h.blk (by decide) e.symm)).trans h.blk
  have p2 := owns_kept h.o2 hr (fun q hq e => own_two h.o2 h.o1 (by decide) q hq e)
  have p3 := owns_kept h.o3 hr (fun q hq e => own_two h.o3 h.o1 (by decide) q hq e)
  have p4 := owns_kept h.o4 hr (fun q hq e => own_two h.o4 h.o1 (by decide) q hq e)
  have b2 := heap_set b1 1 v'
  have r2 : (w'.setCell ⟨bp, 1, none⟩ v').heap[R]? = _ := (Below.heap_setCell w' ⟨bp, 1, none⟩ v' R hne).trans r1
  have ks : w'.grownBy (w'.setCell ⟨bp, 1, none⟩ v') (some bp) := grown_set (World.grownBy.refl w' _) 1 v'
  have c2 : Cur (w'.setCell ⟨bp, 1, none⟩ v') cv g := c1.grown ks (fun q e => by injection e; omega)
  have k2 : Keep g w0 (w'.setCell ⟨bp, 1, none⟩ v') := keep_grown k1 ks (fun q e => by injection e; omega)
  exact ⟨c2, k2, r2, by simpa using b2, owns_kept hn ks (fun q hq e => own_ne hn b1 (by decide) (by rw [hq, e])), owns_kept p2 ks (fun q hq e => own_ne p2 b1 (by decide) (by rw [hq, e])), owns_kept p3 ks (fun q hq e => own_ne p3 b1 (by decide) (by rw [hq, e])), owns_kept p4 ks (fun q hq e => own_ne p4 b1 (by decide) (by rw [hq, e])), hg, hR, hbp, hne⟩
/-- a row grown, and laid into the piece's block -/
theorem PS.put2 {w0 w w' : World} {cv : Value} {g R bp : Nat} {p : P} {r c s t v' : Value} {x : Chunk.T} (h : PS w0 w cv g R bp p r c s t) (hr : w.grownBy w' c.ownBlock) (hn : w'.ownsRow w0.heap.size 95 5 v' (p.chunks ++ [x]).length (Chunk.cs (p.chunks ++ [x]))) :
    PS w0 (w'.setCell ⟨bp, 2, none⟩ v') cv g R bp { p with chunks := p.chunks ++ [x] } r v' s t := by
  have hq : ∀ q, c.ownBlock = some q → w0.heap.size ≤ q := fun q hq => (h.o2.lt q hq).1
  have hg := h.hg; have hR := h.hR; have hbp := h.hbp; have hne := h.hne
  have lR := blk_lt h.res
  have lB := blk_lt h.blk
  have c1 : Cur w' cv g := h.cur.grown hr (fun q e => by have := hq q e; omega)
  have k1 : Keep g w0 w' := keep_grown h.keep hr hq
  have r1 := (hr.block R lR (fun e => own_ne h.o2 h.res (by decide) e.symm)).trans h.res
  have b1 := (hr.block bp lB (fun e => own_ne h.o2 h.blk (by decide) e.symm)).trans h.blk
  have p1 := owns_kept h.o1 hr (fun q hq e => own_two h.o1 h.o2 (by decide) q hq e)
  have p3 := owns_kept h.o3 hr (fun q hq e => own_two h.o3 h.o2 (by decide) q hq e)
  have p4 := owns_kept h.o4 hr (fun q hq e => own_two h.o4 h.o2 (by decide) q hq e)
  have b2 := heap_set b1 2 v'
  have r2 : (w'.setCell ⟨bp, 2, none⟩ v').heap[R]? = _ := (Below.heap_setCell w' ⟨bp, 2, none⟩ v' R hne).trans r1
  have ks : w'.grownBy (w'.setCell ⟨bp, 2, none⟩ v') (some bp) := grown_set (World.grownBy.refl w' _) 2 v'
  have c2 : Cur (w'.setCell ⟨bp, 2, none⟩ v') cv g := c1.grown ks (fun q e => by injection e; omega)
  have k2 : Keep g w0 (w'.setCell ⟨bp, 2, none⟩ v') := keep_grown k1 ks (fun q e => by injection e; omega)
  exact ⟨c2, k2, r2, by simpa using b2, owns_kept p1 ks (fun q hq e => own_ne p1 b1 (by decide) (by rw [hq, e])), owns_kept hn ks (fun q hq e => own_ne hn b1 (by decide) (by rw [hq, e])), owns_kept p3 ks (fun q hq e => own_ne p3 b1 (by decide) (by rw [hq, e])), owns_kept p4 ks (fun q hq e => own_ne p4 b1 (by decide) (by rw [hq, e])), hg, hR, hbp, hne⟩
/-- a row grown, and laid into the piece's block -/
theorem PS.put3 {w0 w w' : World} {cv : Value} {g R bp : Nat} {p : P} {r c s t v' : Value} {x : Span.T} (h : PS w0 w cv g R bp p r c s t) (hr : w.grownBy w' s.ownBlock) (hn : w'.ownsRow w0.heap.size 98 3 v' (p.spans ++ [x]).length (Span.cs (p.spans ++ [x]))) :
    PS w0 (w'.setCell ⟨bp, 3, none⟩ v') cv g R bp { p with spans := p.spans ++ [x] } r c v' t := by
  have hq : ∀ q, s.ownBlock = some q → w0.heap.size ≤ q := fun q hq => (h.o3.lt q hq).1
  have hg := h.hg; have hR := h.hR; have hbp := h.hbp; have hne := h.hne
  have lR := blk_lt h.res
  have lB := blk_lt h.blk
  have c1 : Cur w' cv g := h.cur.grown hr (fun q e => by have := hq q e; omega)
  have k1 : Keep g w0 w' := keep_grown h.keep hr hq
  have r1 := (hr.block R lR (fun e => own_ne h.o3 h.res (by decide) e.symm)).trans h.res
  have b1 := (hr.block bp lB (fun e => own_ne h.o3 h.blk (by decide) e.symm)).trans h.blk
  have p1 := owns_kept h.o1 hr (fun q hq e => own_two h.o1 h.o3 (by decide) q hq e)
  have p2 := owns_kept h.o2 hr (fun q hq e => own_two h.o2 h.o3 (by decide) q hq e)
  have p4 := owns_kept h.o4 hr (fun q hq e => own_two h.o4 h.o3 (by decide) q hq e)
  have b2 := heap_set b1 3 v'
  have r2 : (w'.setCell ⟨bp, 3, none⟩ v').heap[R]? = _ := (Below.heap_setCell w' ⟨bp, 3, none⟩ v' R hne).trans r1
  have ks : w'.grownBy (w'.setCell ⟨bp, 3, none⟩ v') (some bp) := grown_set (World.grownBy.refl w' _) 3 v'
  have c2 : Cur (w'.setCell ⟨bp, 3, none⟩ v') cv g := c1.grown ks (fun q e => by injection e; omega)
  have k2 : Keep g w0 (w'.setCell ⟨bp, 3, none⟩ v') := keep_grown k1 ks (fun q e => by injection e; omega)
  exact ⟨c2, k2, r2, by simpa using b2, owns_kept p1 ks (fun q hq e => own_ne p1 b1 (by decide) (by rw [hq, e])), owns_kept p2 ks (fun q hq e => own_ne p2 b1 (by decide) (by rw [hq, e])), owns_kept hn ks (fun q hq e => own_ne hn b1 (by decide) (by rw [hq, e])), owns_kept p4 ks (fun q hq e => own_ne p4 b1 (by decide) (by rw [hq, e])), hg, hR, hbp, hne⟩
/-- a row grown, and laid into the piece's block -/
theorem PS.put4 {w0 w w' : World} {cv : Value} {g R bp : Nat} {p : P} {r c s t v' : Value} {x : Tie.T} (h : PS w0 w cv g R bp p r c s t) (hr : w.grownBy w' t.ownBlock) (hn : w'.ownsRow w0.heap.size 90 2 v' (p.ties ++ [x]).length (Tie.cs (p.ties ++ [x]))) :
    PS w0 (w'.setCell ⟨bp, 4, none⟩ v') cv g R bp { p with ties := p.ties ++ [x] } r c s v' := by
  have hq : ∀ q, t.ownBlock = some q → w0.heap.size ≤ q := fun q hq => (h.o4.lt q hq).1
  have hg := h.hg; have hR := h.hR; have hbp := h.hbp; have hne := h.hne
  have lR := blk_lt h.res
  have lB := blk_lt h.blk
  have c1 : Cur w' cv g := h.cur.grown hr (fun q e => by have := hq q e; omega)
  have k1 : Keep g w0 w' := keep_grown h.keep hr hq
  have r1 := (hr.block R lR (fun e => own_ne h.o4 h.res (by decide) e.symm)).trans h.res
  have b1 := (hr.block bp lB (fun e => own_ne h.o4 h.blk (by decide) e.symm)).trans h.blk
  have p1 := owns_kept h.o1 hr (fun q hq e => own_two h.o1 h.o4 (by decide) q hq e)
  have p2 := owns_kept h.o2 hr (fun q hq e => own_two h.o2 h.o4 (by decide) q hq e)
  have p3 := owns_kept h.o3 hr (fun q hq e => own_two h.o3 h.o4 (by decide) q hq e)
  have b2 := heap_set b1 4 v'
  have r2 : (w'.setCell ⟨bp, 4, none⟩ v').heap[R]? = _ := (Below.heap_setCell w' ⟨bp, 4, none⟩ v' R hne).trans r1
  have ks : w'.grownBy (w'.setCell ⟨bp, 4, none⟩ v') (some bp) := grown_set (World.grownBy.refl w' _) 4 v'
  have c2 : Cur (w'.setCell ⟨bp, 4, none⟩ v') cv g := c1.grown ks (fun q e => by injection e; omega)
  have k2 : Keep g w0 (w'.setCell ⟨bp, 4, none⟩ v') := keep_grown k1 ks (fun q e => by injection e; omega)
  exact ⟨c2, k2, r2, by simpa using b2, owns_kept p1 ks (fun q hq e => own_ne p1 b1 (by decide) (by rw [hq, e])), owns_kept p2 ks (fun q hq e => own_ne p2 b1 (by decide) (by rw [hq, e])), owns_kept p3 ks (fun q hq e => own_ne p3 b1 (by decide) (by rw [hq, e])), owns_kept hn ks (fun q hq e => own_ne hn b1 (by decide) (by rw [hq, e])), hg, hR, hbp, hne⟩
def l9 : List Int := [0, 2, 8]
theorem ER : Elem Try.prog 30 80 (.agg #[.int .i64 0, .int .i64 0]) 2 16 := ⟨Try.underlying30, by kernel_rfl, rfl, by omega⟩
def RuleOk (x : Rule.T) : Prop := (x.v = 2 ∨ x.v = 3) ∧ 1 ≤ x.c ∧ x.c ≤ 2
theorem rule_snoc (xs : List Rule.T) (a b : Int) : Rule.cs xs ++ [.int .i64 a, .int .i64 b] = Rule.cs (xs ++ [⟨a, b⟩]) := by simp [Rule.cs, Rule.T.cells]
theorem all_snoc {α : Type} {Q : α → Prop} {xs : List α} {x : α} (h : ∀ y ∈ xs, Q y) (hx : Q x) : ∀ y ∈ xs ++ [x], Q y := by
  intro y hy
  rcases List.mem_append.1 hy with hy | hy
  · exact h y hy
  · obtain rfl := List.mem_singleton.1 hy; exact hx
theorem own_nil (w : World) (base e size : Nat) : w.ownsRow base e size (.slice none 0 0) 0 [] := ⟨by simp, .inl ⟨rfl, rfl⟩⟩
def l10 : List ByteArray := [⟨#[97]⟩, ⟨#[99, 97, 108, 108, 40]⟩, ⟨#[115, 111, 109, 101, 32, 43, 32]⟩, ⟨#[97, 76, 111, 110, 103, 101, 114, 78, 97, 109, 101]⟩, ⟨#[120, 44]⟩]
theorem l10_ok {s : ByteArray} (h : s ∈ l10) : Pc.plain s = true ∧ s.size ≤ 11 := by
  simp only [l10, List.mem_cons, List.not_mem_nil, or_false] at h
  rcases h with rfl | rfl | rfl | rfl | rfl <;> decide
theorem chunk_snoc (xs : List Chunk.T) (s : ByteArray) (a b : Int) (c : Bool) (d : Int) : Chunk.cs xs ++ [.string s, .int .i64 a, .int .i64 b, .bool c, .int .i64 d] = Chunk.cs (xs ++ [⟨s, a, b, c, d⟩]) := by simp [Chunk.cs, Chunk.T.cells]
def l11 : List ByteArray := [⟨#[101, 110, 100, 59]⟩, ⟨#[41]⟩, ⟨#[]⟩]
theorem l11_ok {s : ByteArray} (h : s ∈ l11) : Pc.plain s = true ∧ s.size ≤ 11 := by
  simp only [l11, List.mem_cons, List.not_mem_nil, or_false] at h
  rcases h with rfl | rfl | rfl <;> decide
def SpanOk (n : Nat) (x : Span.T) : Prop := 0 ≤ x.f ∧ x.f ≤ x.t ∧ x.t < n ∧ 1 ≤ x.c ∧ x.c ≤ 2
def TieOk (n : Nat) (x : Tie.T) : Prop := 0 ≤ x.k ∧ x.k < n ∧ 0 ≤ x.u ∧ x.u < n ∧ x.k ≠ x.u
theorem span_snoc (xs : List Span.T) (a b c : Int) : Span.cs xs ++ [.int .i64 a, .int .i64 b, .int .i64 c] = Span.cs (xs ++ [⟨a, b, c⟩]) := by simp [Span.cs, Span.T.cells]
theorem tie_snoc (xs : List Tie.T) (a b : Int) : Tie.cs xs ++ [.int .i64 a, .int .i64 b] = Tie.cs (xs ++ [⟨a, b⟩]) := by simp [Tie.cs, Tie.T.cells]
theorem tie_rem {a x m u : Int} (a0 : 0 ≤ a) (a2 : a < 1 + m) (x0 : 0 ≤ x) (x2 : x < m) (hu : (a + 1 + x).tmod (1 + m) = u) : 0 ≤ u ∧ u < 1 + m ∧ a ≠ u := by
  rw [Int.tmod_eq_emod_of_nonneg (by omega)] at hu
  by_cases h : a + 1 + x < 1 + m
  · rw [Int.emod_eq_of_lt (by omega) h] at hu
    omega
  · have e : a + 1 + x = (a + 1 + x - (1 + m)) + (1 + m) * 1 := by omega
    rw [e, Int.add_mul_emod_self_left, Int.emod_eq_of_lt (by omega) (by omega)] at hu
    omega
def ChunkOk (rs : List Rule.T) (x : Chunk.T) : Prop := Pc.plain x.t = true ∧ x.t.size ≤ 11 ∧ ∃ (q : Nat) (h : q < rs.length), x.r = (q : Int) ∧ 1 ≤ x.f ∧ x.f ≤ rs[q].v - 1 ∧ 0 ≤ x.n ∧ x.n ≤ 8
def LastOk (x : Chunk.T) : Prop := Pc.plain x.t = true ∧ x.t.size ≤ 11 ∧ x.r = 0 ∧ x.f = 0 ∧ x.s = false ∧ x.n = 0
/-- a right piece, as it is drawn -/
structure Rt (p : P) : Prop where
  ind : 0 ≤ p.ind ∧ p.ind ≤ 8
  rules : ∀ x ∈ p.rules, RuleOk x
  r1 : 1 ≤ p.rules.length
  r5 : p.rules.length ≤ 5
  chunks : ∃ cs x, p.chunks = cs ++ [x] ∧ cs.length ≤ 8 ∧ (∀ y ∈ cs, ChunkOk p.rules y) ∧ LastOk x ∧ p.spans.length ≤ 2 ∧ (∀ y ∈ p.spans, SpanOk cs.length y) ∧ p.ties.length ≤ 2 ∧ (∀ y ∈ p.ties, TieOk p.rules.length y)
/-- a drawn piece: four rows of the draw's own -/
structure PO (w0 w : World) (cv : Value) (g : Nat) (p : P) (r c s t : Value) : Prop where
  cur : Cur w cv g
  keep : Keep g w0 w
  o1 : w.ownsRow w0.heap.size 80 2 r p.rules.length (Rule.cs p.rules)
  o2 : w.ownsRow w0.heap.size 95 5 c p.chunks.length (Chunk.cs p.chunks)
  o3 : w.ownsRow w0.heap.size 98 3 s p.spans.length (Span.cs p.spans)
  o4 : w.ownsRow w0.heap.size 90 2 t p.ties.length (Tie.cs p.ties)
theorem PS.fin {w0 w : World} {cv : Value} {g R bp : Nat} {p : P} {r c s t : Value} (h : PS w0 w cv g R bp p r c s t) (u0 u1 u2 u3 u4 : Value) :
    PO w0 (((((w.setCell ⟨R, 0, none⟩ u0).setCell ⟨R, 1, none⟩ u1).setCell ⟨R, 2, none⟩ u2).setCell ⟨R, 3, none⟩ u3).setCell ⟨R, 4, none⟩ u4) cv g p r c s t := by
  have k : w.grownBy (((((w.setCell ⟨R, 0, none⟩ u0).setCell ⟨R, 1, none⟩ u1).setCell ⟨R, 2, none⟩ u2).setCell ⟨R, 3, none⟩ u3).setCell ⟨R, 4, none⟩ u4) (some R) := grown_set (grown_set (grown_set (grown_set (grown_set (World.grownBy.refl w _) 0 _) 1 _) 2 _) 3 _) 4 _
  have hg := h.hg; have hR := h.hR
  exact ⟨h.cur.grown k (fun q e => by injection e; omega), keep_grown h.keep k (fun q e => by injection e; omega), owns_kept h.o1 k (fun q hq e => own_ne h.o1 h.res (by decide) (by rw [hq, e])), owns_kept h.o2 k (fun q hq e => own_ne h.o2 h.res (by decide) (by rw [hq, e])), owns_kept h.o3 k (fun q hq e => own_ne h.o3 h.res (by decide) (by rw [hq, e])), owns_kept h.o4 k (fun q hq e => own_ne h.o4 h.res (by decide) (by rw [hq, e]))⟩
set_option maxRecDepth 100000 in
set_option maxHeartbeats 3200000 in
theorem piece_any {w : World} {cv : Value} {g : Nat} (hc : Cur w cv g) :
    Calls Try.prog 93 #[cv] w fun e w' => ∃ (p : P) (r c s t : Value), Rt p ∧ e = .returned (pv p.ind r c s t) ∧ PO w w' cv g p r c s t := by
  have hg := hc.lt
  have hal := (Below.refl w.heap.size w).alloc (Nat.le_refl _) (.cells #[.int .i64 0, .slice none 0 0, .slice none 0 0, .slice none 0 0, .slice none 0 0] 35)
  have c0 := hc.below hal
  have k0 := keep_below (keep_refl g w) hal
  have r0 := heap_alloc_new w (.cells #[.int .i64 0, .slice none 0 0, .slice none 0 0, .slice none 0 0, .slice none 0 0] 35)
  have z0 : (w.alloc (.cells #[.int .i64 0, .slice none 0 0, .slice none 0 0, .slice none 0 0, .slice none 0 0] 35)).heap.size = w.heap.size + 1 := by simp
  generalize hW0 : w.alloc (.cells #[.int .i64 0, .slice none 0 0, .slice none 0 0, .slice none 0 0, .slice none 0 0] 35) = W0 at c0 k0 r0 z0
  have hal2 := (Below.refl W0.heap.size W0).alloc (Nat.le_refl _) (.cells (l9.map (Value.int .i64)).toArray 3)
  have c1 := c0.below hal2
  have k1 := keep_below k0 hal2
  have r1 := blk_below r0 hal2
  have hp := pickInt_any c1 W0.heap.size l9 3 _ _ (str_alloc W0 _ _ _) (by omega) rfl (by omega) (by omega)
  simp only [l9, List.map_cons, List.map_nil] at hp c1 k1 r1
  rw [z0] at hp
  clear hal hal2 c0 k0 c1
  replace hp := Lib.hid hp
  replace k1 := Lib.hid k1
  replace r1 := Lib.hid r1
  replace hc := Lib.hid hc
  go_enter Try.func93, Try.ntmps93
  go_wp2_with fail
  refine hp.out.mono ?_
  rintro e w2 ⟨ind, hi, rfl, c2, k2⟩
  have hin : 0 ≤ ind ∧ ind ≤ 8 := by
    simp only [l9, List.mem_cons, List.not_mem_nil, or_false] at hi
    omega
  have r2 := (k2.block w.heap.size (by simp; omega) (fun e => by injection e; omega)).trans r1.out
  replace k2 := keep_trans k1.out k2
  have l2 := k2.size
  clear hi hp k1 r1 hW0 z0 r0
  have hl2 := blk_lt r2
  have hS : PS w (w2.alloc (.cells #[.int .i64 ind, .slice none 0 0, .slice none 0 0, .slice none 0 0, .slice none 0 0] 35)) cv g w.heap.size w2.heap.size ⟨ind, [], [], [], []⟩ (.slice none 0 0) (.slice none 0 0) (.slice none 0 0) (.slice none 0 0) :=
    have hal3 := (Below.refl w2.heap.size w2).alloc (Nat.le_refl _) (.cells #[.int .i64 ind, .slice none 0 0, .slice none 0 0, .slice none 0 0, .slice none 0 0] 35)
    ⟨c2.below hal3, keep_below k2 hal3, blk_below r2 hal3, heap_alloc_new w2 _, own_nil _ _ _ _, own_nil _ _ _ _, own_nil _ _ _ _, own_nil _ _ _ _, hg, Nat.le_refl _, by omega, by omega⟩
  clear c2 k2 r2
  obtain ⟨bp, hbp⟩ : ∃ bp, w2.heap.size = bp := ⟨_, rfl⟩
  rw [hbp] at hS
  replace hS := Lib.hid hS
  go_wp2_with fail
  refine (below_any hS.out.cur 5).mono ?_
  rintro e w3 ⟨x, x0, x1, -, rfl, c3, k3⟩
  have x2 := x1 (by omega)
  obtain ⟨m, rfl⟩ := Int.eq_ofNat_of_zero_le x0
  replace hS := Lib.hid (hS.out.kept c3 k3)
  clear x1 c3 k3 hl2 l2 hbp
  go_wp2
  go_loopw [5] (fun i wr => ∃ (k : Nat) (p : P) (r : Value), k ≤ m + 1 ∧ i = .int .i64 k ∧ p.rules.length = k ∧ Hid ((∀ x ∈ p.rules, RuleOk x) ∧ p = ⟨ind, p.rules, [], [], []⟩) ∧ PS w wr cv g w.heap.size bp p r (.slice none 0 0) (.slice none 0 0) (.slice none 0 0)) (fun i _ => m + 1 - (intOf i).toNat)
  case atStart => exact ⟨0, ⟨ind, [], [], [], []⟩, _, by omega, rfl, rfl, Lib.hid ⟨by simp, rfl⟩, hS.out⟩
  case round =>
    clear hS
    obtain ⟨k, p, r, hk, rfl, hl, hp, hS⟩ := hrel
    subst hl
    by_cases hlt : p.rules.length < m + 1
    · have hblk := hS.blk
      have hbl := blk_lt hblk
      have d0 : decide ((p.rules.length : Int) < 1 + (m : Int)) = true := by simp; omega
      obtain ⟨Ar, cr, rfl, -⟩ := row_of_owns hS.o1
      go_wp2
      refine wp_region_mix (fun w' => w'.heap[bp]? = some (.cells #[.int .i64 p.ind, .slice Ar p.rules.length cr, .slice none 0 0, .slice none 0 0, .slice none 0 0] 35 (0, 0))) [(0, true), (1, true), (2, true), (5, true), (3, false), (4, true), (6, false), (7, true), (8, true), (9, false), (10, false), (11, true), (12, false)] (by kernel_rfl) (by kernel_rfl) (fun d _ _ _ _ h => by cases d <;> exact h) hblk ?_
      replace hS := hS.drew
      generalize wr.drew = w4 at hS ⊢
      clear hblk hbl
      repeat
       (refine mix_still rfl (by rfl) ?_
        apply Exists.intro
        refine ⟨fun w' hS => ?_, ?_⟩
        · (obtain ⟨z0, z1, z2, z3, z4⟩ := blk5 hS; clear hS; go_simp; (try go_bits); with_reducible rfl)
        (go_simp; (try go_bits)))
      refine mix_loud rfl (fun K hK => ?_)
      (go_simp; (try go_bits))
      refine (below_any hS.cur 2).mono ?_
      rintro _ w5 ⟨y, y0, y1, -, rfl, c9, k9⟩
      have h5 := hS.kept c9 k9
      clear c9 k9
      refine hK _ _ (fun _ => h5.blk) ?_
      clear hK K
      (go_simp; (try go_bits))
      repeat
       (refine mix_still rfl (by rfl) ?_
        apply Exists.intro
        refine ⟨fun w' hS => ?_, ?_⟩
        · (obtain ⟨z0, z1, z2, z3, z4⟩ := blk5 hS; clear hS; go_simp; (try go_bits); with_reducible rfl)
        (go_simp; (try go_bits)))
      refine mix_loud rfl (fun K hK => ?_)
      (go_simp; (try go_bits))
      refine (below_any h5.cur 2).mono ?_
      rintro _ w6 ⟨z, z0, z1, -, rfl, c9, k9⟩
      have h6 := h5.kept c9 k9
      clear c9 k9
      refine hK _ _ (fun _ => h6.blk) ?_
      clear hK K
      (go_simp; (try go_bits))
      repeat
       (refine mix_still rfl (by rfl) ?_
        apply Exists.intro
        refine ⟨fun w' hS => ?_, ?_⟩
        · (obtain ⟨z0, z1, z2, z3, z4⟩ := blk5 hS; clear hS; go_simp; (try go_bits); with_reducible rfl)
        (go_simp; (try go_bits)))
      have y2 := y1 (by omega)
      have z2 := z1 (by omega)
      clear y1 z1 h5
      have s6 := h6.keep.size
      obtain ⟨v', w', hrun, hown', hgr, -⟩ := append_b ER h6.o1 s6 w6.heap.size rfl [.int .i64 (2 + y), .int .i64 (1 + z)] 1 rfl (by simp [Value.oneCell']) (by simp only [maxLen]; omega) (by omega)
      obtain ⟨A', c', rfl, -⟩ := row_of_owns hown'
      refine mix_loud rfl (fun K hK => ?_)
      (go_simp; (try go_bits))
      refine hK _ _ (fun _ => blk_below h6.blk ((Below.refl _ _).alloc (Nat.le_refl _) _)) ?_
      clear hK K
      (go_simp; (try go_bits))
      refine mix_loud rfl (fun K hK => ?_)
      refine loud_append rfl rfl hrun ?_
      have hS9 := (hgr.block bp (blk_lt h6.blk) (fun e => own_ne h6.o1 h6.blk (by decide) e.symm)).trans h6.blk
      refine hK _ _ (fun _ => hS9) ?_
      clear hK K
      (go_simp; (try go_bits))
      repeat
       (refine mix_still rfl (by rfl) ?_
        apply Exists.intro
        refine ⟨fun w' hS => ?_, ?_⟩
        · (obtain ⟨z0, z1, z2, z3, z4⟩ := blk5 hS; clear hS; go_simp; (try go_bits); with_reducible rfl)
        (go_simp; (try go_bits)))
      obtain ⟨y0', y1', y3', y4', y5'⟩ := blk5 hS9
      have f9 := frz hS9 1
      refine mix_loud rfl (fun K hK => ?_)
      (go_simp; (try go_bits))
      refine hK _ _ (no_need (by kernel_rfl)) ?_
      clear hK K
      try (go_simp; (try go_bits))
      refine mix_nil ?_
      have hput := h6.put1 (x := ⟨2 + y, 1 + z⟩) hgr (by rw [← rule_snoc, List.length_append]; exact hown')
      clear hgr hown' hS9 h6 y0' y1' y3' y4' y5' f9 hrun
      have hok : Hid ((∀ x ∈ p.rules ++ [⟨2 + y, 1 + z⟩], RuleOk x) ∧ ({ p with rules := p.rules ++ [⟨2 + y, 1 + z⟩] } : P) = ⟨ind, p.rules ++ [⟨2 + y, 1 + z⟩], [], [], []⟩) :=
        Lib.hid ⟨all_snoc hp.out.1 ⟨by show 2 + y = 2 ∨ 2 + y = 3; omega, by show 1 ≤ 1 + z; omega, by show 1 + z ≤ 2; omega⟩, by rw [hp.out.2]⟩
      replace hput := Lib.hid hput
      go_wp2
      go_roundw
      case rel => exact ⟨p.rules.length + 1, _, _, by omega, by go_num, by simp, hok, hput.out⟩
      case measure => simp [intOf]; omega
    · obtain ⟨pi, rs, cs0, ss0, ts0⟩ := p
      have hp2 := hp.out.2
      have hp1 := hp.out.1
      simp only [P.mk.injEq, true_and] at hp2
      obtain ⟨rfl, rfl, rfl, rfl⟩ := hp2
      simp only at hk hlt hp1 hS
      have hrl : rs.length = m + 1 := by omega
      have d0 : decide ((rs.length : Int) < 1 + (m : Int)) = false := by simp; omega
      replace hrl := Lib.hid hrl
      replace hp1 := Lib.hid hp1
      clear hp hk hlt
      obtain ⟨Ar, cr, rfl, -⟩ := row_of_owns hS.o1
      go_wp2_with fail
      refine (below_any hS.cur 9).mono ?_
      rintro e w4 ⟨x, x0, x1, -, rfl, c4, k4⟩
      have x2' := x1 (by omega)
      obtain ⟨m2, rfl⟩ := Int.eq_ofNat_of_zero_le x0
      replace hS := Lib.hid (hS.kept c4 k4)
      clear x1 c4 k4 d0
      go_wp2
      go_loopw [7] (fun i wr => ∃ (k : Nat) (cs : List Chunk.T) (c : Value), k ≤ m2 ∧ i = .int .i64 k ∧ cs.length = k ∧ Hid (∀ x ∈ cs, ChunkOk rs x) ∧ PS w wr cv g w.heap.size bp ⟨pi, rs, cs, [], []⟩ (.slice Ar rs.length cr) c (.slice none 0 0) (.slice none 0 0)) (fun i _ => m2 - (intOf i).toNat)
      case atStart => exact ⟨0, [], _, by omega, rfl, rfl, Lib.hid (by simp), hS.out⟩
      case round =>
        clear hS
        obtain ⟨k, cs, c, hk, rfl, rfl, hcs, hS⟩ := hrel
        by_cases hlt : cs.length < m2
        · have d1 : decide ((cs.length : Int) < (m2 : Int)) = true := by simp; omega
          obtain ⟨Ac, cc, rfl, -⟩ := row_of_owns hS.o2
          go_wp2_with fail
          refine (below_any hS.cur _).mono ?_
          rintro e w5 ⟨y, y0, y1, -, rfl, c5, k5⟩
          have y2 := y1 (by omega)
          obtain ⟨q, rfl⟩ := Int.eq_ofNat_of_zero_le y0
          have hq : q < rs.length := by have := hrl.out; omega
          replace hS := hS.kept c5 k5
          clear y1 c5 k5 d1
          have hrow := row_of_owns hS.o1
          obtain ⟨Ar', cr', hae, -, -, -, -, hal⟩ := hrow
          cases hae
          obtain ⟨b, off, rfl, hbb, hcell⟩ := hal (by show 0 < rs.length; omega)
          obtain ⟨p0, p1⟩ := Rule.cells_ hcell hq
          obtain ⟨hv, -, -⟩ := hp1.out _ (List.getElem_mem hq)
          obtain ⟨b0, b1, b2, b3, b4⟩ := blk5 hS.blk
          clear hal hcell hbb p1
          obtain ⟨v, hvv⟩ : ∃ v, rs[q].v = v := ⟨_, rfl⟩
          rw [hvv] at p0 hv
          have hw : wrap64 (v - 1) = v - 1 := by unfold wrap64; omega
          replace hv := Lib.hid hv
          go_wp2_with fail
          refine (below_any hS.cur (v - 1)).mono ?_
          rintro e w6 ⟨f, f0, f1, -, rfl, c6, k6⟩
          have f2 : f < v - 1 := f1 (by have := hv.out; omega)
          have f3 : f < 2 := by have := hv.out; omega
          replace hS := hS.kept c6 k6
          clear f1 c6 k6 p0 b0 b1 b2 b3 b4 hw
          go_wp2_with fail
          refine (once_any hS.cur 2).mono ?_
          rintro e w7 ⟨sp, rfl, c7, k7⟩
          replace hS := hS.kept c7 k7
          clear c7 k7
          go_wp2_with fail
          refine (below_any hS.cur 3).mono ?_
          rintro e w8 ⟨nn, n0, n1, -, rfl, c8, k8⟩
          have n2 := n1 (by omega)
          replace hS := hS.kept c8 k8
          clear n1 c8 k8
          have hal := (Below.refl w8.heap.size w8).alloc (Nat.le_refl _) (.cells #[.int .i64 (q : Int), .int .i64 (1 + f), .bool sp, .int .i64 (4 * nn)] 93)
          have hsb := heap_alloc_new w8 (.cells #[.int .i64 (q : Int), .int .i64 (1 + f), .bool sp, .int .i64 (4 * nn)] 93)
          have lb := blk_lt hS.blk
          replace hS := hS.below hal
          replace hS := Lib.hid hS
          clear hal
          go_wp2
          have hsw : w.heap.size ≤ w8.heap.size := by have := hS.out.hR; have := hS.out.keep.size; have := hS.out.hbp; omega
          generalize w8.heap.size = sb at hsb lb hsw ⊢
          generalize w8.alloc (.cells #[.int .i64 (q : Int), .int .i64 (1 + f), .bool sp, .int .i64 (4 * nn)] 93) = w9 at hS hsb ⊢
          refine wp_region_mix (fun w' => w'.heap[bp]? = some (.cells #[.int .i64 pi, .slice (some ⟨b, off, none⟩) rs.length cr, .slice Ac cs.length cc, .slice none 0 0, .slice none 0 0] 35 (0, 0)) ∧ w'.heap[sb]? = some (.cells #[.int .i64 (q : Int), .int .i64 (1 + f), .bool sp, .int .i64 (4 * nn)] 93 (0, 0))) [(0, true), (1, true), (2, true), (5, true), (3, false), (4, false), (6, true), (7, false), (8, false), (9, true), (10, false)] (by kernel_rfl) (by kernel_rfl) (fun d _ _ _ _ h => by cases d <;> exact h) ⟨hS.out.blk, hsb⟩ ?_
          replace hS := hS.out.drew
          replace hsb := (to_drew w9 (w9.heap.size)).block sb (blk_lt hsb) |>.trans hsb
          generalize w9.drew = w10 at hS hsb ⊢
          have hne : sb ≠ g := by have := hS.hg; omega
          repeat
           (refine mix_still rfl (by rfl) ?_
            apply Exists.intro
            refine ⟨fun w' hS => ?_, ?_⟩
            · (obtain ⟨⟨z0, z1, z2, z3, z4⟩, ⟨z5, z6, z7, z8⟩⟩ := (show _ ∧ _ from ⟨blk5 hS.1, blk4 hS.2⟩); clear hS; go_simp; (try go_bits); with_reducible rfl)
            (go_simp; (try go_bits)))
          have hal := (Below.refl w10.heap.size w10).alloc (Nat.le_refl _) (.cells (l10.map Value.string).toArray 9)
          have hp9 := pick_any (hS.below hal).cur w10.heap.size l10 5 _ _ (str_alloc w10 _ _ _) (by have := hS.keep.size; have := hS.hg; omega) rfl (by omega) (by omega)
          replace hsb := blk_below hsb hal
          replace hS := hS.below hal
          simp only [l10, List.map_cons, List.map_nil] at hp9 hsb hS
          clear hal
          refine mix_loud rfl (fun K hK => ?_)
          (go_simp; (try go_bits))
          refine hK _ _ (fun _ => ⟨hS.blk, hsb⟩) ?_
          clear hK K
          (go_simp; (try go_bits))
          refine mix_loud rfl (fun K hK => ?_)
          (go_simp; (try go_bits))
          refine hp9.mono ?_
          rintro _ w12 ⟨tx, htx, rfl, c9, k9⟩
          replace hsb := (k9.block sb (blk_lt hsb) (fun e => by injection e; omega)).trans hsb
          replace hS := hS.kept c9 k9
          clear c9 k9 hp9
          refine hK _ _ (fun _ => ⟨hS.blk, hsb⟩) ?_
          clear hK K
          (go_simp; (try go_bits))
          repeat
           (refine mix_still rfl (by rfl) ?_
            apply Exists.intro
            refine ⟨fun w' hS => ?_, ?_⟩
            · (obtain ⟨⟨z0, z1, z2, z3, z4⟩, ⟨z5, z6, z7, z8⟩⟩ := (show _ ∧ _ from ⟨blk5 hS.1, blk4 hS.2⟩); clear hS; go_simp; (try go_bits); with_reducible rfl)
            (go_simp; (try go_bits)))
          have s6 := hS.keep.size
          obtain ⟨v', w', hrun, hown', hgr, -⟩ := append_b Chunk.E hS.o2 s6 w12.heap.size rfl [.string tx, .int .i64 (q : Int), .int .i64 (1 + f), .bool sp, .int .i64 (4 * nn)] 1 rfl (by simp [Value.oneCell']) (by show cs.length + 1 ≤ _; simp only [maxLen]; omega) (by show (cs.length + 1) * 48 ≤ _; omega)
          obtain ⟨A', c', rfl, -⟩ := row_of_owns hown'
          refine mix_loud rfl (fun K hK => ?_)
          (go_simp; (try go_bits))
          refine hK _ _ (fun _ => ⟨blk_below hS.blk ((Below.refl _ _).alloc (Nat.le_refl _) _), blk_below hsb ((Below.refl _ _).alloc (Nat.le_refl _) _)⟩) ?_
          clear hK K
          (go_simp; (try go_bits))
          refine mix_loud rfl (fun K hK => ?_)
          refine loud_append rfl rfl hrun ?_
          have hS9 := (hgr.block bp (blk_lt hS.blk) (fun e => own_ne hS.o2 hS.blk (by decide) e.symm)).trans hS.blk
          have hS8 := (hgr.block sb (blk_lt hsb) (fun e => own_ne hS.o2 hsb (by decide) e.symm)).trans hsb
          refine hK _ _ (fun _ => ⟨hS9, hS8⟩) ?_
          clear hK K
          (go_simp; (try go_bits))
          repeat
           (refine mix_still rfl (by rfl) ?_
            apply Exists.intro
            refine ⟨fun w' hS => ?_, ?_⟩
            · (obtain ⟨⟨z0, z1, z2, z3, z4⟩, ⟨z5, z6, z7, z8⟩⟩ := (show _ ∧ _ from ⟨blk5 hS.1, blk4 hS.2⟩); clear hS; go_simp; (try go_bits); with_reducible rfl)
            (go_simp; (try go_bits)))
          obtain ⟨y0', y1', y3', y4', y5'⟩ := blk5 hS9
          have f9 := frz hS9 2
          refine mix_loud rfl (fun K hK => ?_)
          (go_simp; (try go_bits))
          refine hK _ _ (no_need (by kernel_rfl)) ?_
          clear hK K
          try (go_simp; (try go_bits))
          refine mix_nil ?_
          have hput := hS.put2 (x := ⟨tx, q, 1 + f, sp, 4 * nn⟩) hgr (by rw [← chunk_snoc, List.length_append]; exact hown')
          clear hgr hown' hS9 hS8 hS y0' y1' y3' y4' y5' f9 hrun hsb
          have hok : Hid (∀ x ∈ cs ++ [⟨tx, q, 1 + f, sp, 4 * nn⟩], ChunkOk rs x) := Lib.hid (all_snoc hcs.out ⟨(l10_ok htx).1, (l10_ok htx).2, q, hq, rfl, by show 1 ≤ 1 + f; omega, by show 1 + f ≤ rs[q].v - 1; rw [hvv]; omega, by show 0 ≤ 4 * nn; omega, by show 4 * nn ≤ 8; omega⟩)
          replace hput := Lib.hid hput
          go_wp2
          go_roundw
          case rel => exact ⟨cs.length + 1, _, _, by omega, by go_num, by simp, hok, hput.out⟩
          case measure => simp [intOf]; omega
        · obtain rfl : m2 = cs.length := by omega
          have d1 : decide ((cs.length : Int) < (cs.length : Int)) = false := by simp
          obtain ⟨Ac, cc, rfl, -⟩ := row_of_owns hS.o2
          have hblk := hS.blk
          go_wp2
          refine wp_region_mix (fun w' => w'.heap[bp]? = some (.cells #[.int .i64 pi, .slice Ar rs.length cr, .slice Ac cs.length cc, .slice none 0 0, .slice none 0 0] 35 (0, 0))) [(0, true), (1, true), (2, true), (3, false), (4, false), (5, true), (6, false), (7, false), (8, true), (9, false)] (by kernel_rfl) (by kernel_rfl) (fun d _ _ _ _ h => by cases d <;> exact h) hblk ?_
          replace hS := hS.drew
          generalize wr.drew = w10 at hS ⊢
          clear hblk d1
          repeat
           (refine mix_still rfl (by rfl) ?_
            apply Exists.intro
            refine ⟨fun w' hS => ?_, ?_⟩
            · (obtain ⟨z0, z1, z2, z3, z4⟩ := blk5 hS; clear hS; go_simp; (try go_bits); with_reducible rfl)
            (go_simp; (try go_bits)))
          have hal := (Below.refl w10.heap.size w10).alloc (Nat.le_refl _) (.cells (l11.map Value.string).toArray 9)
          have hp9 := pick_any (hS.below hal).cur w10.heap.size l11 3 _ _ (str_alloc w10 _ _ _) (by have := hS.keep.size; have := hS.hg; omega) rfl (by omega) (by omega)
          replace hS := hS.below hal
          simp only [l11, List.map_cons, List.map_nil] at hp9 hS
          clear hal
          refine mix_loud rfl (fun K hK => ?_)
          (go_simp; (try go_bits))
          refine hK _ _ (fun _ => hS.blk) ?_
          clear hK K
          (go_simp; (try go_bits))
          refine mix_loud rfl (fun K hK => ?_)
          (go_simp; (try go_bits))
          refine hp9.mono ?_
          rintro _ w12 ⟨tx, htx, rfl, c9, k9⟩
          replace hS := hS.kept c9 k9
          clear c9 k9 hp9
          refine hK _ _ (fun _ => hS.blk) ?_
          clear hK K
          (go_simp; (try go_bits))
          repeat
           (refine mix_still rfl (by rfl) ?_
            apply Exists.intro
            refine ⟨fun w' hS => ?_, ?_⟩
            · (obtain ⟨z0, z1, z2, z3, z4⟩ := blk5 hS; clear hS; go_simp; (try go_bits); with_reducible rfl)
            (go_simp; (try go_bits)))
          have s6 := hS.keep.size
          obtain ⟨v', w', hrun, hown', hgr, -⟩ := append_b Chunk.E hS.o2 s6 w12.heap.size rfl [.string tx, .int .i64 0, .int .i64 0, .bool false, .int .i64 0] 1 rfl (by simp [Value.oneCell']) (by show cs.length + 1 ≤ _; simp only [maxLen]; omega) (by show (cs.length + 1) * 48 ≤ _; omega)
          obtain ⟨A', c', rfl, -⟩ := row_of_owns hown'
          refine mix_loud rfl (fun K hK => ?_)
          (go_simp; (try go_bits))
          refine hK _ _ (fun _ => blk_below hS.blk ((Below.refl _ _).alloc (Nat.le_refl _) _)) ?_
          clear hK K
          (go_simp; (try go_bits))
          refine mix_loud rfl (fun K hK => ?_)
          refine loud_append rfl rfl hrun ?_
          have hS9 := (hgr.block bp (blk_lt hS.blk) (fun e => own_ne hS.o2 hS.blk (by decide) e.symm)).trans hS.blk
          refine hK _ _ (fun _ => hS9) ?_
          clear hK K
          (go_simp; (try go_bits))
          repeat
           (refine mix_still rfl (by rfl) ?_
            apply Exists.intro
            refine ⟨fun w' hS => ?_, ?_⟩
            · (obtain ⟨z0, z1, z2, z3, z4⟩ := blk5 hS; clear hS; go_simp; (try go_bits); with_reducible rfl)
            (go_simp; (try go_bits)))
          obtain ⟨y0', y1', y3', y4', y5'⟩ := blk5 hS9
          have f9 := frz hS9 2
          refine mix_loud rfl (fun K hK => ?_)
          (go_simp; (try go_bits))
          refine hK _ _ (no_need (by kernel_rfl)) ?_
          clear hK K
          try (go_simp; (try go_bits))
          refine mix_nil ?_
          have hput := hS.put2 (x := ⟨tx, 0, 0, false, 0⟩) hgr (by rw [← chunk_snoc, List.length_append]; exact hown')
          clear hgr hown' hS9 hS y0' y1' y3' y4' y5' f9 hrun
          have hlast := Lib.hid (l11_ok htx)
          clear htx
          replace hput := Lib.hid hput
          go_wp2
          go_loopw [10] (fun i wr => ∃ (k : Nat) (ss : List Span.T) (s : Value), k ≤ 2 ∧ i = .int .i64 k ∧ ss.length = k ∧ Hid (∀ x ∈ ss, SpanOk cs.length x) ∧ PS w wr cv g w.heap.size bp ⟨pi, rs, cs ++ [⟨tx, 0, 0, false, 0⟩], ss, []⟩ (.slice Ar rs.length cr) (.slice A' (cs.length + 1) c') s (.slice none 0 0)) (fun i _ => 3 - (intOf i).toNat)
          case atStart => exact ⟨0, [], _, by omega, rfl, rfl, Lib.hid (by simp), hput.out⟩
          case round =>
            clear hput
            obtain ⟨k, ss, s, hk3, rfl, rfl, hss, hS⟩ := hrel
            go_wp2_with fail
            refine (below_any hS.cur 3).mono ?_
            rintro e w13 ⟨y, y0, y1, -, rfl, c5, k5⟩
            have y2 := y1 (by omega)
            replace hS := hS.kept c5 k5
            clear y1 c5 k5
            by_cases hy : (ss.length : Int) < y
            · have d2 : decide ((ss.length : Int) < y) = true := by simpa using hy
              by_cases hm : 0 < cs.length
              · have d3 : decide ((0 : Int) < (cs.length : Int)) = true := by simp; omega
                go_wp2_with fail
                refine (below_any hS.cur _).mono ?_
                rintro e w14 ⟨z, z0, z1, -, rfl, c5, k5⟩
                have z2 := z1 (by omega)
                replace hS := hS.kept c5 k5
                clear z1 c5 k5 d2 d3
                obtain ⟨q2, rfl⟩ := Int.eq_ofNat_of_zero_le z0
                obtain ⟨As, cs3, rfl, -⟩ := row_of_owns hS.o3
                have hblk := hS.blk
                go_wp2
                refine wp_region_mix (fun w' => w'.heap[bp]? = some (.cells #[.int .i64 pi, .slice Ar rs.length cr, .slice A' (cs.length + 1) c', .slice As ss.length cs3, .slice none 0 0] 35 (0, 0))) [(0, true), (1, true), (2, true), (3, true), (4, true), (6, true), (7, true), (5, false), (8, false), (9, true), (10, true), (11, false), (12, false), (13, true), (14, false)] (by kernel_rfl) (by kernel_rfl) (fun d _ _ _ _ h => by cases d <;> exact h) hblk ?_
                replace hS := hS.drew
                generalize w14.drew = w15 at hS ⊢
                clear hblk
                repeat
                 (refine mix_still rfl (by rfl) ?_
                  apply Exists.intro
                  refine ⟨fun w' hS => ?_, ?_⟩
                  · (obtain ⟨z0, z1, z2, z3, z4⟩ := blk5 hS; clear hS; go_simp; (try go_bits); with_reducible rfl)
                  (go_simp; (try go_bits)))
                refine mix_loud rfl (fun K hK => ?_)
                (go_simp; (try go_bits))
                refine (below_any hS.cur ((q2 : Int) + 1)).mono ?_
                rintro _ w16 ⟨f, f0, f1, -, rfl, c9, k9⟩
                have h5 := hS.kept c9 k9
                clear c9 k9
                refine hK _ _ (fun _ => h5.blk) ?_
                clear hK K
                (go_simp; (try go_bits))
                refine mix_loud rfl (fun K hK => ?_)
                (go_simp; (try go_bits))
                refine (below_any h5.cur 2).mono ?_
                rintro _ w17 ⟨z, z0, z1, -, rfl, c9, k9⟩
                have h6 := h5.kept c9 k9
                clear c9 k9
                refine hK _ _ (fun _ => h6.blk) ?_
                clear hK K
                (go_simp; (try go_bits))
                repeat
                 (refine mix_still rfl (by rfl) ?_
                  apply Exists.intro
                  refine ⟨fun w' hS => ?_, ?_⟩
                  · (obtain ⟨z0, z1, z2, z3, z4⟩ := blk5 hS; clear hS; go_simp; (try go_bits); with_reducible rfl)
                  (go_simp; (try go_bits)))
                have f2 := f1 (by omega)
                have z2' := z1 (by omega)
                clear f1 z1 h5 hS
                have s6 := h6.keep.size
                obtain ⟨v', w', hrun, hown', hgr, -⟩ := append_b Span.E h6.o3 s6 w17.heap.size rfl [.int .i64 f, .int .i64 (q2 : Int), .int .i64 (1 + z)] 1 rfl (by simp [Value.oneCell']) (by show ss.length + 1 ≤ _; simp only [maxLen]; omega) (by show (ss.length + 1) * 24 ≤ _; omega)
                obtain ⟨A5, c5', rfl, -⟩ := row_of_owns hown'
                refine mix_loud rfl (fun K hK => ?_)
                (go_simp; (try go_bits))
                refine hK _ _ (fun _ => blk_below h6.blk ((Below.refl _ _).alloc (Nat.le_refl _) _)) ?_
                clear hK K
                (go_simp; (try go_bits))
                refine mix_loud rfl (fun K hK => ?_)
                refine loud_append rfl rfl hrun ?_
                have hS9 := (hgr.block bp (blk_lt h6.blk) (fun e => own_ne h6.o3 h6.blk (by decide) e.symm)).trans h6.blk
                refine hK _ _ (fun _ => hS9) ?_
                clear hK K
                (go_simp; (try go_bits))
                repeat
                 (refine mix_still rfl (by rfl) ?_
                  apply Exists.intro
                  refine ⟨fun w' hS => ?_, ?_⟩
                  · (obtain ⟨z0, z1, z2, z3, z4⟩ := blk5 hS; clear hS; go_simp; (try go_bits); with_reducible rfl)
                  (go_simp; (try go_bits)))
                obtain ⟨y0', y1', y3', y4', y5'⟩ := blk5 hS9
                have f9 := frz hS9 3
                refine mix_loud rfl (fun K hK => ?_)
                (go_simp; (try go_bits))
                refine hK _ _ (no_need (by kernel_rfl)) ?_
                clear hK K
                try (go_simp; (try go_bits))
                refine mix_nil ?_
                have hput := h6.put3 (x := ⟨f, q2, 1 + z⟩) hgr (by rw [← span_snoc, List.length_append]; exact hown')
                clear hgr hown' hS9 h6 y0' y1' y3' y4' y5' f9 hrun
                have hok : Hid (∀ x ∈ ss ++ [⟨f, (q2 : Int), 1 + z⟩], SpanOk cs.length x) := Lib.hid (all_snoc hss.out ⟨f0, by show f ≤ (q2 : Int); omega, by show (q2 : Int) < cs.length; omega, by show 1 ≤ 1 + z; omega, by show 1 + z ≤ 2; omega⟩)
                replace hput := Lib.hid hput
                go_wp2
                go_roundw
                case rel => exact ⟨ss.length + 1, _, _, by omega, by go_num, by simp, hok, hput.out⟩
                case measure => simp [intOf]; omega
              · have d3 : decide ((0 : Int) < (cs.length : Int)) = false := decide_eq_false (by omega)
                obtain ⟨As, cs3, rfl, -⟩ := row_of_owns hS.o3
                go_wp2
                go_loopw [12] (fun i wr => ∃ (k : Nat) (ts : List Tie.T) (t : Value), k ≤ 2 ∧ i = .int .i64 k ∧ ts.length = k ∧ Hid (∀ x ∈ ts, TieOk rs.length x) ∧ PS w wr cv g w.heap.size bp ⟨pi, rs, cs ++ [⟨tx, 0, 0, false, 0⟩], ss, ts⟩ (.slice Ar rs.length cr) (.slice A' (cs.length + 1) c') (.slice As ss.length cs3) t) (fun i _ => 3 - (intOf i).toNat)
                case atStart => exact ⟨0, [], _, by omega, rfl, rfl, Lib.hid (by simp), hS⟩
                case round =>
                  clear hS
                  obtain ⟨k, ts, t, hk4, rfl, rfl, hts, hS⟩ := hrel
                  go_wp2_with fail
                  refine (below_any hS.cur 3).mono ?_
                  rintro e w18 ⟨yy, yy0, yy1, -, rfl, c5, k5⟩
                  have yy2 := yy1 (by omega)
                  replace hS := hS.kept c5 k5
                  clear yy1 c5 k5
                  obtain ⟨At, ct, rfl, -⟩ := row_of_owns hS.o4
                  by_cases ky : (ts.length : Int) < yy
                  · have e2 : decide ((ts.length : Int) < yy) = true := by simpa using ky
                    by_cases km : 0 < m
                    · have e3 : decide ((1 : Int) < 1 + (m : Int)) = true := by simp; omega
                      go_wp2_with fail
                      refine (below_any hS.cur _).mono ?_
                      rintro e w19 ⟨a, a0, a1, -, rfl, c5, k5⟩
                      have a2 := a1 (by omega)
                      replace hS := hS.kept c5 k5
                      clear a1 c5 k5 e2 e3
                      have hblk := hS.blk
                      go_wp2
                      refine wp_region_mix (fun w' => w'.heap[bp]? = some (.cells #[.int .i64 pi, .slice Ar rs.length cr, .slice A' (cs.length + 1) c', .slice As ss.length cs3, .slice At ts.length ct] 35 (0, 0))) [(0, true), (1, true), (2, true), (3, true), (4, true), (5, true), (6, true), (7, true), (10, true), (8, false), (9, true), (11, true), (12, true), (13, false), (14, false), (15, true), (16, false)] (by kernel_rfl) (by kernel_rfl) (fun d _ _ _ _ h => by cases d <;> exact h) hblk ?_
                      replace hS := hS.drew
                      generalize w19.drew = w20 at hS ⊢
                      clear hblk
                      repeat
                       (refine mix_still rfl (by rfl) ?_
                        apply Exists.intro
                        refine ⟨fun w' hS => ?_, ?_⟩
                        · (obtain ⟨z0, z1, z2, z3, z4⟩ := blk5 hS; clear hS; go_simp; (try go_bits); with_reducible rfl)
                        (go_simp; (try go_bits)))
                      refine mix_loud rfl (fun K hK => ?_)
                      (go_simp; (try go_bits))
                      refine (below_any hS.cur _).mono ?_
                      rintro _ w21 ⟨x, x0', x1', -, rfl, c9, k9⟩
                      have h6 := hS.kept c9 k9
                      clear c9 k9 hS
                      refine hK _ _ (fun _ => h6.blk) ?_
                      clear hK K
                      have x3 : x < (m : Int) := by have := x1' (by omega); omega
                      obtain ⟨u, hu⟩ : ∃ u, (a + 1 + x).tmod (1 + (m : Int)) = u := ⟨_, rfl⟩
                      have hub := tie_rem a0 a2 x0' x3 hu
                      have hz : (1 + (m : Int) == 0) = false := beq_eq_false_iff_ne.2 (by omega)
                      replace hub := Lib.hid hub
                      (go_simp; (try go_bits))
                      repeat
                       (refine mix_still rfl (by rfl) ?_
                        apply Exists.intro
                        refine ⟨fun w' hS => ?_, ?_⟩
                        · (obtain ⟨z0, z1, z2, z3, z4⟩ := blk5 hS; clear hS; go_simp; (try go_bits); with_reducible rfl)
                        (go_simp; (try go_bits)))
                      refine mix_still rfl (by rfl) ?_
                      apply Exists.intro
                      refine ⟨fun w' hS => ?_, ?_⟩
                      · clear hS
                        (go_simp; (try go_bits))
                        refine (if_neg (by omega)).trans ?_
                        with_reducible rfl
                      (go_simp; (try go_bits))
                      repeat
                       (refine mix_still rfl (by rfl) ?_
                        apply Exists.intro
                        refine ⟨fun w' hS => ?_, ?_⟩
                        · (obtain ⟨z0, z1, z2, z3, z4⟩ := blk5 hS; clear hS; go_simp; (try go_bits); with_reducible rfl)
                        (go_simp; (try go_bits)))
                      have s6 := h6.keep.size
                      obtain ⟨v', w', hrun, hown', hgr, -⟩ := append_b Tie.E h6.o4 s6 w21.heap.size rfl [.int .i64 a, .int .i64 u] 1 rfl (by simp [Value.oneCell']) (by show ts.length + 1 ≤ _; simp only [maxLen]; omega) (by show (ts.length + 1) * 16 ≤ _; omega)
                      obtain ⟨A6, c6', rfl, -⟩ := row_of_owns hown'
                      refine mix_loud rfl (fun K hK => ?_)
                      (go_simp; (try go_bits))
                      refine hK _ _ (fun _ => blk_below h6.blk ((Below.refl _ _).alloc (Nat.le_refl _) _)) ?_
                      clear hK K
                      (go_simp; (try go_bits))
                      refine mix_loud rfl (fun K hK => ?_)
                      refine loud_append rfl rfl hrun ?_
                      have hS9 := (hgr.block bp (blk_lt h6.blk) (fun e => own_ne h6.o4 h6.blk (by decide) e.symm)).trans h6.blk
                      refine hK _ _ (fun _ => hS9) ?_
                      clear hK K
                      (go_simp; (try go_bits))
                      repeat
                       (refine mix_still rfl (by rfl) ?_
                        apply Exists.intro
                        refine ⟨fun w' hS => ?_, ?_⟩
                        · (obtain ⟨z0, z1, z2, z3, z4⟩ := blk5 hS; clear hS; go_simp; (try go_bits); with_reducible rfl)
                        (go_simp; (try go_bits)))
                      obtain ⟨y0', y1', y3', y4', y5'⟩ := blk5 hS9
                      have f9 := frz hS9 4
                      refine mix_loud rfl (fun K hK => ?_)
                      (go_simp; (try go_bits))
                      refine hK _ _ (no_need (by kernel_rfl)) ?_
                      clear hK K
                      try (go_simp; (try go_bits))
                      refine mix_nil ?_
                      have hput := h6.put4 (x := ⟨a, u⟩) hgr (by rw [← tie_snoc, List.length_append]; exact hown')
                      clear hgr hown' hS9 h6 y0' y1' y3' y4' y5' f9 hrun
                      have hok : Hid (∀ x ∈ ts ++ [⟨a, u⟩], TieOk rs.length x) := Lib.hid (all_snoc hts.out ⟨a0, by show a < (rs.length : Int); have := hrl.out; omega, hub.out.1, by show u < (rs.length : Int); have := hrl.out; have := hub.out.2.1; omega, hub.out.2.2⟩)
                      replace hput := Lib.hid hput
                      go_wp2
                      go_roundw
                      case rel => exact ⟨ts.length + 1, _, _, by omega, by go_num, by simp, hok, hput.out⟩
                      case measure => simp [intOf]; omega
                    · have e3 : decide ((1 : Int) < 1 + (m : Int)) = false := decide_eq_false (by omega)
                      obtain ⟨b0, b1, b2, b3, b4⟩ := blk5 hS.blk
                      have f0 := frz hS.res 0
                      have f1 := frz hS.res 1
                      have f2 := frz hS.res 2
                      have f3 := frz hS.res 3
                      have f4 := frz hS.res 4
                      obtain ⟨q0', q1', q3', q4', q5'⟩ := blk5 hS.res
                      have hfin := hS.fin
                      replace hS := Lib.hid hS
                      go_wp2
                      refine bodyPost_ret (v := pv pi (.slice Ar rs.length cr) (.slice A' (cs.length + 1) c') (.slice As ss.length cs3) (.slice At ts.length ct)) (by simp [results, Try.results93, go_sem, q0', q1', q3', q4', q5']) rfl ?_
                      exact ⟨⟨pi, rs, cs ++ [⟨tx, 0, 0, false, 0⟩], ss, ts⟩, _, _, _, _, ⟨hin, hp1.out, by show 1 ≤ rs.length; have := hrl.out; omega, by show rs.length ≤ 5; have := hrl.out; omega, cs, ⟨tx, 0, 0, false, 0⟩, rfl, by omega, hcs.out, ⟨hlast.out.1, hlast.out.2, rfl, rfl, rfl, rfl⟩, by show ss.length ≤ 2; omega, hss.out, by show ts.length ≤ 2; omega, hts.out⟩, rfl, hfin _ _ _ _ _⟩
                  · have e2 : decide ((ts.length : Int) < yy) = false := by simpa using ky
                    obtain ⟨b0, b1, b2, b3, b4⟩ := blk5 hS.blk
                    have f0 := frz hS.res 0
                    have f1 := frz hS.res 1
                    have f2 := frz hS.res 2
                    have f3 := frz hS.res 3
                    have f4 := frz hS.res 4
                    obtain ⟨q0', q1', q3', q4', q5'⟩ := blk5 hS.res
                    have hfin := hS.fin
                    replace hS := Lib.hid hS
                    go_wp2
                    refine bodyPost_ret (v := pv pi (.slice Ar rs.length cr) (.slice A' (cs.length + 1) c') (.slice As ss.length cs3) (.slice At ts.length ct)) (by simp [results, Try.results93, go_sem, q0', q1', q3', q4', q5']) rfl ?_
                    exact ⟨⟨pi, rs, cs ++ [⟨tx, 0, 0, false, 0⟩], ss, ts⟩, _, _, _, _, ⟨hin, hp1.out, by show 1 ≤ rs.length; have := hrl.out; omega, by show rs.length ≤ 5; have := hrl.out; omega, cs, ⟨tx, 0, 0, false, 0⟩, rfl, by omega, hcs.out, ⟨hlast.out.1, hlast.out.2, rfl, rfl, rfl, rfl⟩, by show ss.length ≤ 2; omega, hss.out, by show ts.length ≤ 2; omega, hts.out⟩, rfl, hfin _ _ _ _ _⟩
            · have d2 : decide ((ss.length : Int) < y) = false := by simpa using hy
              obtain ⟨As, cs3, rfl, -⟩ := row_of_owns hS.o3
              go_wp2
              go_loopw [12] (fun i wr => ∃ (k : Nat) (ts : List Tie.T) (t : Value), k ≤ 2 ∧ i = .int .i64 k ∧ ts.length = k ∧ Hid (∀ x ∈ ts, TieOk rs.length x) ∧ PS w wr cv g w.heap.size bp ⟨pi, rs, cs ++ [⟨tx, 0, 0, false, 0⟩], ss, ts⟩ (.slice Ar rs.length cr) (.slice A' (cs.length + 1) c') (.slice As ss.length cs3) t) (fun i _ => 3 - (intOf i).toNat)
              case atStart => exact ⟨0, [], _, by omega, rfl, rfl, Lib.hid (by simp), hS⟩
              case round =>
                clear hS
                obtain ⟨k, ts, t, hk4, rfl, rfl, hts, hS⟩ := hrel
                go_wp2_with fail
                refine (below_any hS.cur 3).mono ?_
                rintro e w18 ⟨yy, yy0, yy1, -, rfl, c5, k5⟩
                have yy2 := yy1 (by omega)
                replace hS := hS.kept c5 k5
                clear yy1 c5 k5
                obtain ⟨At, ct, rfl, -⟩ := row_of_owns hS.o4
                by_cases ky : (ts.length : Int) < yy
                · have e2 : decide ((ts.length : Int) < yy) = true := by simpa using ky
                  by_cases km : 0 < m
                  · have e3 : decide ((1 : Int) < 1 + (m : Int)) = true := by simp; omega
                    go_wp2_with fail
                    refine (below_any hS.cur _).mono ?_
                    rintro e w19 ⟨a, a0, a1, -, rfl, c5, k5⟩
                    have a2 := a1 (by omega)
                    replace hS := hS.kept c5 k5
                    clear a1 c5 k5 e2 e3
                    have hblk := hS.blk
                    go_wp2
                    refine wp_region_mix (fun w' => w'.heap[bp]? = some (.cells #[.int .i64 pi, .slice Ar rs.length cr, .slice A' (cs.length + 1) c', .slice As ss.length cs3, .slice At ts.length ct] 35 (0, 0))) [(0, true), (1, true), (2, true), (3, true), (4, true), (5, true), (6, true), (7, true), (10, true), (8, false), (9, true), (11, true), (12, true), (13, false), (14, false), (15, true), (16, false)] (by kernel_rfl) (by kernel_rfl) (fun d _ _ _ _ h => by cases d <;> exact h) hblk ?_
                    replace hS := hS.drew
                    generalize w19.drew = w20 at hS ⊢
                    clear hblk
                    repeat
                     (refine mix_still rfl (by rfl) ?_
                      apply Exists.intro
                      refine ⟨fun w' hS => ?_, ?_⟩
                      · (obtain ⟨z0, z1, z2, z3, z4⟩ := blk5 hS; clear hS; go_simp; (try go_bits); with_reducible rfl)
                      (go_simp; (try go_bits)))
                    refine mix_loud rfl (fun K hK => ?_)
                    (go_simp; (try go_bits))
                    refine (below_any hS.cur _).mono ?_
                    rintro _ w21 ⟨x, x0', x1', -, rfl, c9, k9⟩
                    have h6 := hS.kept c9 k9
                    clear c9 k9 hS
                    refine hK _ _ (fun _ => h6.blk) ?_
                    clear hK K
                    have x3 : x < (m : Int) := by have := x1' (by omega); omega
                    obtain ⟨u, hu⟩ : ∃ u, (a + 1 + x).tmod (1 + (m : Int)) = u := ⟨_, rfl⟩
                    have hub := tie_rem a0 a2 x0' x3 hu
                    have hz : (1 + (m : Int) == 0) = false := beq_eq_false_iff_ne.2 (by omega)
                    replace hub := Lib.hid hub
                    (go_simp; (try go_bits))
                    repeat
                     (refine mix_still rfl (by rfl) ?_
                      apply Exists.intro
                      refine ⟨fun w' hS => ?_, ?_⟩
                      · (obtain ⟨z0, z1, z2, z3, z4⟩ := blk5 hS; clear hS; go_simp; (try go_bits); with_reducible rfl)
                      (go_simp; (try go_bits)))
                    refine mix_still rfl (by rfl) ?_
                    apply Exists.intro
                    refine ⟨fun w' hS => ?_, ?_⟩
                    · clear hS
                      (go_simp; (try go_bits))
                      refine (if_neg (by omega)).trans ?_
                      with_reducible rfl
                    (go_simp; (try go_bits))
                    repeat
                     (refine mix_still rfl (by rfl) ?_
                      apply Exists.intro
                      refine ⟨fun w' hS => ?_, ?_⟩
                      · (obtain ⟨z0, z1, z2, z3, z4⟩ := blk5 hS; clear hS; go_simp; (try go_bits); with_reducible rfl)
                      (go_simp; (try go_bits)))
                    have s6 := h6.keep.size
                    obtain ⟨v', w', hrun, hown', hgr, -⟩ := append_b Tie.E h6.o4 s6 w21.heap.size rfl [.int .i64 a, .int .i64 u] 1 rfl (by simp [Value.oneCell']) (by show ts.length + 1 ≤ _; simp only [maxLen]; omega) (by show (ts.length + 1) * 16 ≤ _; omega)
                    obtain ⟨A6, c6', rfl, -⟩ := row_of_owns hown'
                    refine mix_loud rfl (fun K hK => ?_)
                    (go_simp; (try go_bits))
                    refine hK _ _ (fun _ => blk_below h6.blk ((Below.refl _ _).alloc (Nat.le_refl _) _)) ?_
                    clear hK K
                    (go_simp; (try go_bits))
                    refine mix_loud rfl (fun K hK => ?_)
                    refine loud_append rfl rfl hrun ?_
                    have hS9 := (hgr.block bp (blk_lt h6.blk) (fun e => own_ne h6.o4 h6.blk (by decide) e.symm)).trans h6.blk
                    refine hK _ _ (fun _ => hS9) ?_
                    clear hK K
                    (go_simp; (try go_bits))
                    repeat
                     (refine mix_still rfl (by rfl) ?_
                      apply Exists.intro
                      refine ⟨fun w' hS => ?_, ?_⟩
                      · (obtain ⟨z0, z1, z2, z3, z4⟩ := blk5 hS; clear hS; go_simp; (try go_bits); with_reducible rfl)
                      (go_simp; (try go_bits)))
                    obtain ⟨y0', y1', y3', y4', y5'⟩ := blk5 hS9
                    have f9 := frz hS9 4
                    refine mix_loud rfl (fun K hK => ?_)
                    (go_simp; (try go_bits))
                    refine hK _ _ (no_need (by kernel_rfl)) ?_
                    clear hK K
                    try (go_simp; (try go_bits))
                    refine mix_nil ?_
                    have hput := h6.put4 (x := ⟨a, u⟩) hgr (by rw [← tie_snoc, List.length_append]; exact hown')
                    clear hgr hown' hS9 h6 y0' y1' y3' y4' y5' f9 hrun
                    have hok : Hid (∀ x ∈ ts ++ [⟨a, u⟩], TieOk rs.length x) := Lib.hid (all_snoc hts.out ⟨a0, by show a < (rs.length : Int); have := hrl.out; omega, hub.out.1, by show u < (rs.length : Int); have := hrl.out; have := hub.out.2.1; omega, hub.out.2.2⟩)
                    replace hput := Lib.hid hput
                    go_wp2
                    go_roundw
                    case rel => exact ⟨ts.length + 1, _, _, by omega, by go_num, by simp, hok, hput.out⟩
                    case measure => simp [intOf]; omega
                  · have e3 : decide ((1 : Int) < 1 + (m : Int)) = false := decide_eq_false (by omega)
                    obtain ⟨b0, b1, b2, b3, b4⟩ := blk5 hS.blk
                    have f0 := frz hS.res 0
                    have f1 := frz hS.res 1
                    have f2 := frz hS.res 2
                    have f3 := frz hS.res 3
                    have f4 := frz hS.res 4
                    obtain ⟨q0', q1', q3', q4', q5'⟩ := blk5 hS.res
                    have hfin := hS.fin
                    replace hS := Lib.hid hS
                    go_wp2
                    refine bodyPost_ret (v := pv pi (.slice Ar rs.length cr) (.slice A' (cs.length + 1) c') (.slice As ss.length cs3) (.slice At ts.length ct)) (by simp [results, Try.results93, go_sem, q0', q1', q3', q4', q5']) rfl ?_
                    exact ⟨⟨pi, rs, cs ++ [⟨tx, 0, 0, false, 0⟩], ss, ts⟩, _, _, _, _, ⟨hin, hp1.out, by show 1 ≤ rs.length; have := hrl.out; omega, by show rs.length ≤ 5; have := hrl.out; omega, cs, ⟨tx, 0, 0, false, 0⟩, rfl, by omega, hcs.out, ⟨hlast.out.1, hlast.out.2, rfl, rfl, rfl, rfl⟩, by show ss.length ≤ 2; omega, hss.out, by show ts.length ≤ 2; omega, hts.out⟩, rfl, hfin _ _ _ _ _⟩
                · have e2 : decide ((ts.length : Int) < yy) = false := by simpa using ky
                  obtain ⟨b0, b1, b2, b3, b4⟩ := blk5 hS.blk
                  have f0 := frz hS.res 0
                  have f1 := frz hS.res 1
                  have f2 := frz hS.res 2
                  have f3 := frz hS.res 3
                  have f4 := frz hS.res 4
                  obtain ⟨q0', q1', q3', q4', q5'⟩ := blk5 hS.res
                  have hfin := hS.fin
                  replace hS := Lib.hid hS
                  go_wp2
                  refine bodyPost_ret (v := pv pi (.slice Ar rs.length cr) (.slice A' (cs.length + 1) c') (.slice As ss.length cs3) (.slice At ts.length ct)) (by simp [results, Try.results93, go_sem, q0', q1', q3', q4', q5']) rfl ?_
                  exact ⟨⟨pi, rs, cs ++ [⟨tx, 0, 0, false, 0⟩], ss, ts⟩, _, _, _, _, ⟨hin, hp1.out, by show 1 ≤ rs.length; have := hrl.out; omega, by show rs.length ≤ 5; have := hrl.out; omega, cs, ⟨tx, 0, 0, false, 0⟩, rfl, by omega, hcs.out, ⟨hlast.out.1, hlast.out.2, rfl, rfl, rfl, rfl⟩, by show ss.length ≤ 2; omega, hss.out, by show ts.length ≤ 2; omega, hts.out⟩, rfl, hfin _ _ _ _ _⟩
end Go.Proofs.Ytlakellmdcdaaaa.Draw

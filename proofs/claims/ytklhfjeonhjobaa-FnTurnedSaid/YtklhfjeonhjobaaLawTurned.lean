/-
  FnTurned: a drawn text whose one byte is another is not unsealed; it is unsealed as it was sealed; the sum goes on.
  Conditions: none beyond the statement's own.
-/
import Derived.Test.YtklhfjeonhjobaaRows
import Derived.Test.YtklhfjeonhjobaaArgs
import Derived.Test.YtklhfjeonhjobaaPost
import Derived.Test.YtklhfjeonhjobaaDraw
import Derived.Test.YtklhfjeonhjobaaTurned
import Derived.Test.YtklhfjeonhjobaaOwnSet
import Derived.Laws.IdiomStrings
import Derived.Laws.BitsAllLaws
import Derived.WalkKit
import Derived.ProofKit
import Derived.OpenShut
namespace Go.Proofs.Ytklhfjeonhjobaa.lawTurned
open Go.ChangeShapes Go.WideShapes Go.ChangeAt Go.RowKit Go.Proofs.Ytklhfjeonhjobaa.Mix Go.Proofs.Ytklhfjeonhjobaa.Row Go.Proofs.Ytklhfjeonhjobaa.Mem Go.Proofs.Ytklhfjeonhjobaa.Owns Go.Proofs.Ytklhfjeonhjobaa.Blocks Go.Proofs.Ytklhfjeonhjobaa.Draw Go.Proofs.Ytklhfjeonhjobaa.Seal Go.Proofs.Ytklhfjeonhjobaa.Crc Go.Proofs.Ytklhfjeonhjobaa.Turned
set_option linter.unusedVariables false
theorem cellsB : Try.prog.cellsOf 5 = 1 := by kernel_rfl
theorem xor_ne {a b : Nat} (ha : a < 256) (hb : b < 256) (h0 : 0 < b) : (a ^^^ b) < 256 ∧ UInt8.ofNat (a ^^^ b) ≠ UInt8.ofNat a := by
  have h1 : a ^^^ b < 256 := Nat.xor_lt_two_pow (n := 8) ha hb
  refine ⟨h1, fun e => ?_⟩
  have := congrArg UInt8.toNat e
  rw [UInt8.toNat_ofNat_of_lt' (by exact h1), UInt8.toNat_ofNat_of_lt' (by exact ha)] at this
  have h2 := congrArg (fun x => a ^^^ x) this
  simp only [← Nat.xor_assoc, Nat.xor_self, Nat.zero_xor] at h2
  omega
theorem heap_set_mark {w : World} {g : Nat} {arr : Array Value} {e : TypeId} {fr : Nat × Nat} (h : w.heap[g]? = some (.cells arr e fr)) (j : Nat) (u : Value) : (w.setCell ⟨g, j, none⟩ u).heap[g]? = some (.cells (arr.setIfInBounds j u) e fr) := by
  simp [World.setCell, Array.getElem?_modify, h]
/-- the bytes of t, one of them another -/
theorem cells_back {w : World} {g cap : Nat} {t : ByteArray} {i : Nat} {c : UInt8} {e : TypeId} {fr : Nat × Nat} (hb : w.heap[g]? = some (.cells (bytesRow t cap) e fr)) (hi : i < t.size) (j : Nat) (hj : j < (t.data.toList.set i c).length) :
    (w.setCell ⟨g, i, none⟩ (.int .u8 (c.toNat : Int))).cell? ((⟨g, 0, none⟩ : Addr).add j) = some (.int .u8 ((t.data.toList.set i c)[j].toNat : Int)) := by
  have hl : t.data.toList.length = t.size := by simp
  have hjl : j < t.size := by rw [List.length_set] at hj; omega
  have ha : (⟨g, 0, none⟩ : Addr).add j = ⟨g, j, none⟩ := by unfold Addr.add; split <;> simp_all
  have hg := (Array.getElem?_eq_some_iff.1 hb).1
  have hset := heap_set_mark hb i (.int .u8 (c.toNat : Int))
  have hc : ∀ o, (w.setCell ⟨g, i, none⟩ (.int .u8 (c.toNat : Int))).cell? ⟨g, o, none⟩ = ((bytesRow t cap).setIfInBounds i (.int .u8 (c.toNat : Int)))[o]? := fun o => by
    unfold World.cell?
    rw [hset]
    simp
  rw [ha, hc, List.getElem_set]
  by_cases h : i = j
  · subst h
    rw [if_pos rfl, Array.getElem?_setIfInBounds_self_of_lt]
    unfold bytesRow
    simp
    have : t.data.size = t.size := rfl
    omega
  · rw [if_neg h, Array.getElem?_setIfInBounds_ne h, bytesRow_at t cap j hjl]
    rfl
set_option maxRecDepth 100000 in
set_option maxHeartbeats 3200000 in
theorem walkN {v : Value} {bs : List Int} {w : World} (h : Drawn w v bs) :
    Calls Try.prog 3 #[v] w fun e w' => e = .returned (.bool true) ∧ Below w.heap.size w w' := by
  obtain ⟨A0, c0, rfl, -⟩ := id h.1
  by_cases hb : bs.length ≤ 1048576
  · have d0 : decide ((1048576 : Int) < (bs.length : Int)) = false := by simp; omega
    replace h := Lib.hid h
    go_enter Try.func3, Try.ntmps3
    go_wp2_with fail
    refine (big_any h.out).mono ?_
    rintro e w0 ⟨rfl, rfl⟩
    go_wp2_with fail
    refine (sumOf_any h.out hb).mono ?_
    rintro e w1 ⟨s, hs, rfl, b1⟩
    replace h := Lib.hid (h.out.below b1)
    have hB := Lib.hid b1
    clear b1
    go_wp2_with fail
    refine (places_any h.out hb).mono ?_
    rintro e w2 ⟨vp, xs, hl, hx, rfl, op, b2⟩
    clear h
    replace hB := Lib.hid (hB.out.trans (b2.mono hB.out.size))
    clear b2
    obtain ⟨Ap, cp, rfl, -, pn, pnc, pcm, -⟩ := row_of_owns op
    replace op := Lib.hid op
    have hx0 := hx _ (List.getElem_mem (show 0 < xs.length by omega))
    have hx1 := hx _ (List.getElem_mem (show 1 < xs.length by omega))
    have e0 : (xs.map (Value.int .i64))[0]? = some (.int .i64 xs[0]) := by simp [show 0 < xs.length by omega]
    have e1 : (xs.map (Value.int .i64))[1]? = some (.int .i64 xs[1]) := by simp [show 1 < xs.length by omega]
    replace hx := Lib.hid hx
    generalize xs[0] = p0 at *
    generalize xs[1] = p1 at *
    -- sealed
    have hse : sealed_ s = (tt s, true) := by unfold sealed_ tt; rw [if_pos (by omega)]
    have hun := unsealed_tt s (by omega)
    have hts := tt_size s
    have htn := Lib.hid (fun (t : ByteArray) (i : Nat) (c : UInt8) => unsealed_turned s t (by omega) (i := i) (c := c))
    have c1 := impl_Sealed s (by omega) w2
    rw [hse] at c1
    have c2 := Lib.hid (fun W => impl_Unsealed (tt s) (by rw [hts]; omega) W)
    rw [hun] at c2
    unfold strBool at c1 c2
    replace c1 := Lib.hid c1
    generalize tt s = t at *
    clear hse hun
    go_wp2_with fail
    refine c1.out.mono ?_
    rintro e w3 ⟨rfl, b3⟩
    replace hB := Lib.hid (hB.out.trans (b3.mono hB.out.size))
    replace op := Lib.hid (own_below op.out b3)
    clear b3 c1
    go_wp2_with fail
    refine (c2.out _).mono ?_
    rintro e w4 ⟨rfl, b4⟩
    replace hB := Lib.hid (hB.out.trans (b4.mono hB.out.size))
    replace op := Lib.hid (own_below op.out b4)
    clear b4 c2
    have sB4 := hB.out.size
    have hob := Lib.hid (fun q hq => (op.out.lt q hq).2)
    have d1 : (s.toList != s.toList) = false := by simp
    have d2 : ((t.size : Int) != (s.size : Int) + 4) = false := by rw [hts]; simp
    have hcv := run_bytes_of_string (P := Try.prog) w4 9 22 5 t Try.underlying9 Try.underlying22 Try.underlying5
    generalize grownCap w4 t.size 0 5 = cap at hcv
    have hdr := (Below.refl w4.heap.size w4).drew.alloc (Nat.le_refl _) (.cells (bytesRow t cap) 5 ((bytesRow t cap).size, (bytesRow t cap).size + 1))
    have hk : (w4.drew.alloc (.cells (bytesRow t cap) 5 ((bytesRow t cap).size, (bytesRow t cap).size + 1))).heap[w4.heap.size]? = some (.cells (bytesRow t cap) 5 ((bytesRow t cap).size, (bytesRow t cap).size + 1)) := heap_alloc_new w4.drew _
    obtain ⟨w5, hw5⟩ : ∃ w5, w4.drew.alloc (.cells (bytesRow t cap) 5 ((bytesRow t cap).size, (bytesRow t cap).size + 1)) = w5 := ⟨_, rfl⟩
    rw [hw5] at hcv hdr hk
    clear hw5
    have l5 := blk_lt hk
    replace hB := Lib.hid (hB.out.trans (hdr.mono hB.out.size))
    replace op := Lib.hid (own_below op.out hdr)
    have o5 := op.out
    obtain ⟨gp, rfl, hgp, hgl, hgc, hgf⟩ := owns_open o5 (by omega)
    have q0 := hgc 0 _ e0
    have q1 := hgc 1 _ e1
    have hgp4 : gp < w4.heap.size := hob.out gp rfl
    clear o5 hgc hgf e0 e1
    replace op := Lib.hid op.out
    -- the place, the byte
    have ht4 : 4 ≤ t.size := by rw [hts]; omega
    have hp := Int.emod_nonneg p0 (show (t.size : Int) ≠ 0 by omega)
    have hp2 := Int.emod_lt_of_pos p0 (show (0 : Int) < (t.size : Int) by omega)
    have hm0 : p0.tmod (t.size : Int) = p0 % (t.size : Int) := Int.tmod_eq_emod_of_nonneg hx0.1
    have hz0 : ((t.size : Int) == 0) = false := beq_eq_false_iff_ne.2 (by omega)
    obtain ⟨i, hi⟩ := Int.eq_ofNat_of_zero_le hp
    rw [hi] at hp2
    have hil : i < t.size := by omega
    have hql := Int.emod_lt_of_pos p1 (show (0 : Int) < 255 by omega)
    have hq0 := Int.emod_nonneg p1 (show (255 : Int) ≠ 0 by omega)
    obtain ⟨q, hq⟩ := Int.eq_ofNat_of_zero_le hq0
    rw [hq] at hql
    obtain ⟨ba, hba⟩ : ∃ ba, t.data[i]'hil = ba := ⟨_, rfl⟩
    have cb : w5.cell? ⟨w4.heap.size, i, none⟩ = some (.int .u8 (ba.toNat : Int)) := by
      unfold World.cell?
      rw [hk]
      have := bytesRow_at t cap i hil
      rw [hba] at this
      first | exact this | simpa using this
    have fb : w5.frozen? ⟨w4.heap.size, i, none⟩ = false := by
      have hsz : t.size ≤ (bytesRow t cap).size := by
        have : t.data.size = t.size := rfl
        unfold bytesRow; simp <;> omega
      simp [World.frozen?, hk]
      omega
    have hbl : ba.toNat < 256 := ba.toNat_lt
    obtain ⟨hc256, hcne⟩ := xor_ne hbl (show 1 + q < 256 by omega) (by omega)
    have hxor := u8_xor_nat ba.toNat (1 + q) hbl (by omega)
    obtain ⟨c, hc⟩ : ∃ c, UInt8.ofNat (ba.toNat ^^^ (1 + q)) = c := ⟨_, rfl⟩
    have hcn : (ba.toNat ^^^ (1 + q)) = c.toNat := by rw [← hc, UInt8.toNat_ofNat_of_lt' hc256]
    rw [hcn] at hxor
    have hne : c ≠ ba := by rw [← hc]; intro e; apply hcne; rw [e]; simp
    have hxor2 : bits BinOp.xor IntKind.u8 (ba.toNat : Int) (1 + (q : Int)) = (c.toNat : Int) := by rw [← hxor]; simp
    have hm1 : p1.tmod 255 = (q : Int) := by rw [Int.tmod_eq_emod_of_nonneg hx1.1]; exact hq
    clear hxor hcn hc hcne hc256 hbl hp hq0
    -- turned
    obtain ⟨tn, htnd⟩ : ∃ tn : ByteArray, (⟨(t.data.toList.set i c).toArray⟩ : ByteArray) = tn := ⟨_, rfl⟩
    have htl : tn.data.toList = t.data.toList.set i c := by rw [← htnd]
    have hll : t.data.toList.length = t.size := by simp
    have huT : unsealed tn = (ByteArray.empty, false) := htn.out tn i c (by omega) (by intro e; apply hne; rw [e, ← hba]; rfl) htl
    have htz : tn.size ≤ 140737488351232 := by
      have : tn.data.toList.length = tn.size := by simp
      rw [htl, List.length_set, hll, hts] at this
      omega
    have hback := run_convert_bytes_back (P := Try.prog) (w5.setCell ⟨w4.heap.size, i, none⟩ (.int .u8 (c.toNat : Int))).drew 22 9 5 ⟨w4.heap.size, 0, none⟩ cap (t.data.toList.set i c) Try.underlying22 Try.underlying5 Try.underlying9 (cells_back (w := w5) hk hil)
    rw [List.length_set, hll, htnd] at hback
    have c5 := impl_Unsealed tn htz
    rw [huT] at c5
    unfold strBool at c5
    replace c5 := Lib.hid c5
    have hB6 := Lib.hid ((hB.out.setCell (p := ⟨w4.heap.size, i, none⟩) sB4 (.int .u8 (c.toNat : Int))).drew)
    clear htnd htl hll huT htn hB op hba
    replace hne := Lib.hid hne
    replace hx := Lib.hid hx
    replace hts := Lib.hid hts
    clear hm0 hm1
    have i0 : (0 : Int) ≤ (i : Int) := by omega
    clear hx
    go_wp2
    refine wp_region_below [(0, true), (1, true), (2, true), (3, true), (4, true), (5, true), (6, true), (7, true), (8, true), (9, true), (10, true), (11, true), (12, true), (13, true), (14, false)] (by kernel_rfl) (by kernel_rfl) (fun d _ _ _ _ h => by cases d <;> exact h) ?_
    repeat
     (refine mix_still rfl (by rfl) ?_
      apply Exists.intro
      refine ⟨fun w' hS => ?_, ?_⟩
      · (have hS' := cells_of hS; clear hS; go_simp; (try go_bits); first | with_reducible rfl | (refine (if_pos ?_).trans ?_; omega; with_reducible rfl))
      (go_simp; (try go_bits)))
    refine mix_loud rfl (fun K hK => ?_)
    (go_simp; (try go_bits))
    refine hK _ _ (no_need (by kernel_rfl)) ?_
    clear hK K
    try (go_simp; (try go_bits))
    refine mix_nil ?_
    obtain ⟨w6, hw6⟩ : ∃ w6, (w5.setCell ⟨w4.heap.size, i, none⟩ (.int .u8 (c.toNat : Int))).drew = w6 := ⟨_, rfl⟩
    rw [hw6] at hback hB6 ⊢
    clear hw6 cb fb q0 q1 hcv hk hdr hgl hxor2
    obtain ⟨Z, hZ⟩ : ∃ Z, crc (sum s) [120] = Z := ⟨_, rfl⟩
    have hsum : sum (s ++ ⟨#[120]⟩) = Z := by rw [← hZ]; unfold sum; rw [ByteArray.data_append, Array.toList_append, crc_append]
    have c8 := fun W => impl_SumOf s (by omega) W
    have c9 := fun W => SumMore.impl_any (sum s) (sum_lt s) ⟨#[120]⟩ W (by decide)
    have c10 := fun W => impl_SumOf (s ++ ⟨#[120]⟩) (by rw [ByteArray.size_append]; show s.size + 1 ≤ _; omega) W
    have hcl : crc (sum s) (⟨#[120]⟩ : ByteArray).data.toList = Z := hZ
    rw [hcl] at c9
    rw [hsum] at c10
    clear hcl hsum hZ
    generalize sum s = S at c8 c9
    replace c8 := Lib.hid c8
    replace c9 := Lib.hid c9
    replace c10 := Lib.hid c10
    go_wp2_with fail
    refine (c5.out _).mono ?_
    rintro e w7 ⟨rfl, b7⟩
    have hB7 := hB6.out.trans (b7.mono hB6.out.size)
    clear hB6 b7 c5 hback
    go_wp2_with fail
    refine (c8.out _).mono ?_
    rintro e w8 ⟨rfl, rfl⟩
    go_wp2_with fail
    refine (c9.out _).mono ?_
    rintro e w9 ⟨rfl, rfl⟩
    have hcat : s ++ (⟨#[120]⟩ : ByteArray) = s ++ ⟨#[120]⟩ := rfl
    go_wp2_with fail
    refine (c10.out _).mono ?_
    rintro e w10 ⟨rfl, rfl⟩
    go_wp2
    go_ret
    exact ⟨by simp, hB7⟩
  · have d0 : decide ((1048576 : Int) < (bs.length : Int)) = true := by simp; omega
    go_enter Try.func3, Try.ntmps3
    go_wp2_with fail
    refine (big_any h).mono ?_
    rintro e w0 ⟨rfl, rfl⟩
    go_wp2
    go_ret
    exact ⟨rfl, Below.refl _ _⟩
theorem walk (v0 : Value) {base : Nat} {w : World} (o0 : Value.okWide Try.prog w .any base 22 v0) {H : Type} {enc : TypeId × Value → H} {d0 : DataW H} {p0 : List MemPlace} (h0 : DataW.Trod enc Try.prog w 0 (fun _ => true) true 22 v0 d0 p0) :
    Calls Try.prog 3 #[v0] w fun e w' => e = .returned (.bool true) ∧ Below w.heap.size w w' := by
  obtain ⟨xs, hx, hw⟩ := Args.row_ints Try.underlying22 Try.underlying5 cellsB o0 h0
  exact walkN ⟨hx, fun x hx => by have := hw x hx; simp [Lit.wf, IntKind.min, IntKind.max, IntKind.signed, IntKind.bits] at this; omega⟩
theorem own : ownKnob Try.prog.godebug = none := by kernel_rfl
theorem laidOut : laidOutB Try.prog = true := by kernel_rfl
set_option maxRecDepth 100000 in
theorem lifted (os : Os) (started : os.Started) (H : Type) (enc : TypeId × Value → H) :
    ReturnsInHanded {} Try.checked os 3 .any (Rows.fnTurnedSpec.pre6 enc Try.prog Try.f3 Rows.fnTurnedRow.domain false) (Rows.fnTurnedSpec.post enc Try.prog Try.f3 false true false false) := by
  refine returnsInHanded_of_change (C := Try.checked) own started (by kernel_rfl) Try.func3
    (ChangeSpec.witness6 (enc := enc) (C := Try.checked) false ⟨#[], #[.slice none 0 0], []⟩ 8 (by kernel_rfl) (by kernel_rfl) (by kernel_rfl) (by kernel_rfl)) ?_
  intro W base args ds gs before hval0 hW hcnd _
  have hval : ∀ (j : Nat) t v, Try.f3.params[j]? = some t → args[j]? = some v → Value.okWide Try.prog W .any base t v := hval0
  have hW' := hW
  obtain ⟨p, q, hA0, hV, rfl, hfz, hnd⟩ := hW
  have hA : DataW.TrodAll enc Try.prog W 0 (fun _ => true) true Try.f3.params.toList args.toList ds p := hA0
  rw [Try.params3] at hA hval
  obtain ⟨v0, vs0, d0, ds0, p0, q0, hargs, rfl, rfl, h0, r0⟩ := trodAll_cons hA
  obtain ⟨rfl, rfl, rfl⟩ := trodAll_nil r0
  obtain rfl : args = #[v0] := by cases args; simp_all
  obtain ⟨rfl, rfl⟩ := trodVars_none hV
  have k0 := h0
  have o0 := hval 0 22 v0 rfl rfl
  clear hA0 hval0
  simp only [List.append_nil] at hW'
  have hlt := fun x hx => DataW.Whole.lt hW' x hx
  refine (walk v0 o0 h0).mono fun e W' ⟨he, hg⟩ => ?_
  subst he
  exact ⟨_, rfl, Post.post_of_below (pa := p0 ++ ([])) (pv := []) hW' (fun _ _ _ => (trodAll_cons_mk (shut_bool Try.underlying4 _) trodAll_mk0)) (fun sp hsp => (trodAll_cons_mk (Post.stays laidOut (by kernel_rfl) (of_decide_eq_true (by kernel_rfl)) k0 hg (fun x hx => by first | (cases hx; done) | simp [hx]) hlt hsp) trodAll_mk0)) (fun _ _ => rfl) (by simp)
    hg (ok_one (by kernel_rfl) rfl (okWide_bool_mk Try.underlying4 _))⟩

theorem over : Rows.fnTurnedRow.holds Try.pinned (OpenSpec.ofChange Rows.fnTurnedSpec) :=
  OpenClaim.holds_of_wide 3 Try.f3 rfl rfl rfl rfl rfl rfl rfl ⟨rfl, rfl, rfl, rfl, rfl⟩ rfl rfl rfl rfl rfl (by kernel_rfl) Try.func3 (by kernel_rfl)
    (of_decide_eq_true (by kernel_rfl)) (by unfold Func.isWrapper; first | (rw [if_pos (by decide +kernel)]; kernel_rfl) | (rw [if_neg (by decide +kernel)]; exact ⟨rfl, rfl⟩))
    (fun os started H enc _ => lifted os started H enc)

/-- THE STATEMENT -/
theorem proved : Rows.FnTurnedSaid :=
  over
end Go.Proofs.Ytklhfjeonhjobaa.lawTurned

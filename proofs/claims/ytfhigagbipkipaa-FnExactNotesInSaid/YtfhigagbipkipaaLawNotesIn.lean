/-
  FnExactNotesIn: impl.NotesIn and spec.NotesIn return the same for every list of signs, in memory of their own.
  Conditions: none beyond the statement's own.
-/
import Derived.Test.YtfhigagbipkipaaRows
import Derived.Test.YtfhigagbipkipaaNotes
import Derived.Test.YtfhigagbipkipaaMarkSigns
import Derived.Test.YtfhigagbipkipaaMarkStrs
import Derived.Test.YtfhigagbipkipaaSignArgs
import Derived.Test.YtfhigagbipkipaaPost
import Derived.WalkKit
import Derived.ProofKit
import Derived.OpenShut
namespace Go.Proofs.Ytfhigagbipkipaa.lawNotesIn
open Go.ChangeShapes Go.WideShapes Go.ChangeAt Go.RowKit Go.Proofs.Ytfhigagbipkipaa.Mix Go.Proofs.Ytfhigagbipkipaa.Row Go.Proofs.Ytfhigagbipkipaa.Mem Go.Proofs.Ytfhigagbipkipaa.Sign Go.Proofs.Ytfhigagbipkipaa.Notes Go.Proofs.Ytfhigagbipkipaa.Owns
set_option linter.unusedVariables false
theorem guard (xs : List Sign) (left : Int) (h0 : 0 ≤ left) : (∃ r : Int, Strs.sz (texts xs) left = r ∧ 0 ≤ r ∧ r ≤ left ∧ (xs.length : Int) ≤ left) ∨ Strs.sz (texts xs) left = -1 := by
  unfold Strs.sz
  split
  · rename_i h
    simp only [List.length_map] at h ⊢
    exact .inl ⟨_, rfl, by omega, by omega, by omega⟩
  · exact .inr rfl
theorem eq_strs {v1 v2 : Value} {xs : List ByteArray} {b1 b2 : Nat} {w : World} (h1 : w.ownsRow b1 9 1 v1 xs.length (Strs.strs xs)) (h2 : w.ownsRow b2 9 1 v2 xs.length (Strs.strs xs)) :
    Calls Try.prog 11 #[v1, v2] w fun e w' => e = .returned (.bool true) ∧ Below w.heap.size w w' :=
  (Strs.eq_any (row_of_owns h1) (row_of_owns h2)).mono fun e w' h => ⟨by rw [h.1, decide_eq_true rfl], h.2⟩
set_option maxRecDepth 100000 in
set_option maxHeartbeats 3200000 in
theorem walkN {v0 : Value} {xs : List Sign} {w : World} (h0 : Row w v0 4 xs.length (signs xs)) (hx : ∀ x ∈ xs, x.t.size ≤ maxLen) :
    Calls Try.prog 3 #[v0] w fun e w' => e = .returned (.bool true) ∧ Below w.heap.size w w' := by
  obtain ⟨A0, c0, e0, -⟩ := id h0
  have z0 := Lib.hid (sz_any h0 hx 1048576 (by omega) (by omega))
  rcases guard xs 1048576 (by omega) with ⟨r, hr, r0, r1, hlx⟩ | hr
  · rw [hr] at z0
    have d0 : decide (r < 0) = false := by simp; omega
    have hmx : xs.length ≤ 1048576 := by omega
    have hnl : (notes xs).length ≤ xs.length := by have := notes_len xs xs.length; rwa [List.take_length] at this
    have hn1 : 1 + (notes xs).length ≤ 1099511627776 := by omega
    have hn4 : 1 + xs.length * 4 ≤ 1099511627776 := by omega
    have dk : decide (((1 + xs.length * 4 : Nat) : Int) < 0) = false := by simp; omega
    have dq : decide (((1 + (notes xs).length : Nat) : Int) < 0) = false := by simp; omega
    have dm : (((1 + (notes xs).length : Nat) : Int) != ((1 + (notes xs).length : Nat) : Int)) = false := by simp
    generalize hK : ((1 + xs.length * 4 : Nat) : Int) = K at dk
    generalize hQ : ((1 + (notes xs).length : Nat) : Int) = Q at dq dm
    replace hK := Lib.hid hK
    replace hQ := Lib.hid hQ
    replace hlx : xs.length * 40 ≤ 140737488355328 := by omega
    clear hr
    subst e0
    replace h0 := Lib.hid h0
    replace hx := Lib.hid hx
    replace hnl := Lib.hid hnl
    replace hn1 := Lib.hid hn1
    replace hn4 := Lib.hid hn4
    go_enter Try.func3, Try.ntmps3
    go_wp2_with fail
    refine z0.out.mono ?_
    rintro e w1 ⟨rfl, b1⟩
    go_wp2_with fail
    refine (to_any (h0.out.below b1) hlx).mono ?_
    rintro e w2 ⟨rfl, o2, b2⟩
    replace b2 := thenBelow b1 b2
    clear b1 z0
    go_wp2_with fail
    refine (spec_Notes o2.row hmx).mono ?_
    rintro e w3 ⟨vw, rfl, ow, b3⟩
    replace b3 := thenBelow b2 b3
    have lw := Lib.hid (fun q hq => (ow.lt q hq).2)
    replace ow := Lib.hid ow
    clear o2 b2
    go_wp2_with fail
    refine (to_any (h0.out.below b3) hlx).mono ?_
    rintro e w4 ⟨rfl, ox, b4⟩
    replace ow := Lib.hid (own_below ow.out b4)
    have s4 : w3.heap.size < w4.heap.size := ox.lt
    replace b4 := thenBelow b3 b4
    replace ox := Lib.hid ox
    go_wp2_with fail
    refine (impl_Notes ox.out.row hmx).mono ?_
    rintro e w5 ⟨vg, rfl, og, b5⟩
    replace ow := Lib.hid (own_below ow.out b5)
    replace ox := Lib.hid (ox.out.below b5)
    have lg := Lib.hid (fun q hq => (og.lt q hq).1)
    replace og := Lib.hid og
    replace b5 := thenBelow b4 b5
    have s3 := b3.size
    clear b3 b4
    go_wp2_with fail
    refine (eq_strs og.out ow.out).mono ?_
    rintro e w6 ⟨rfl, b6⟩
    replace ow := Lib.hid (own_below ow.out b6)
    replace og := Lib.hid (own_below og.out b6)
    replace ox := Lib.hid (ox.out.below b6)
    replace b6 := thenBelow b5 b6
    clear b5
    go_wp2_with fail
    refine (to_any (h0.out.below b6) hlx).mono ?_
    rintro e w7 ⟨rfl, o7, b7⟩
    replace ow := Lib.hid (own_below ow.out b7)
    replace og := Lib.hid (own_below og.out b7)
    replace ox := Lib.hid (ox.out.below b7)
    replace b7 := thenBelow b6 b7
    replace o7 := Lib.hid o7
    clear b6
    go_wp2_with fail
    refine (eq_self ox.out.row o7.out.row).mono ?_
    rintro e w8 ⟨rfl, b8⟩
    replace ow := Lib.hid (own_below ow.out b8)
    replace og := Lib.hid (own_below og.out b8)
    replace ox := Lib.hid (own_owns (ox.out.below b8))
    replace b8 := thenBelow b7 b8
    clear b7 o7
    go_wp2_with fail
    refine (MarkSigns.mark_any (k := 1) ox.out (by omega) hn4.out).mono ?_
    rintro e w9 ⟨rfl, ox9, k9⟩
    replace k9 : w8.grownBy w9 (some w3.heap.size) := k9
    rw [hK.out]
    replace ow := Lib.hid (owns_kept ow.out k9 (fun q hq e => by have := lw.out q hq; injection e with e; omega))
    replace og := Lib.hid (owns_kept og.out k9 (fun q hq e => by have := lg.out q hq; injection e with e; omega))
    have b9 := b8.grown k9 b8.size (fun q hq => by injection hq with hq; omega)
    clear b8 k9 ox9 ox
    go_wp2_with fail
    refine (eq_strs og.out ow.out).mono ?_
    rintro e w10 ⟨rfl, b10⟩
    replace ow := Lib.hid (own_below ow.out b10)
    replace og := Lib.hid (own_below og.out b10)
    replace b10 := thenBelow b9 b10
    clear b9
    go_wp2_with fail
    refine (MarkStrs.mark_any (k := 1) og.out (by omega) hn1.out).mono ?_
    rintro e w11 ⟨rfl, og11, k11⟩
    rw [hQ.out]
    replace ow := Lib.hid (owns_kept ow.out k11 (fun q hq e => by have := lw.out q hq; have := lg.out q e; omega))
    have b11 := b10.grown k11 b10.size (fun q hq => by have := lg.out q hq; omega)
    replace og11 := Lib.hid og11
    clear b10 k11 og
    go_wp2_with fail
    refine (MarkStrs.held_any (k := 1) (row_of_owns og11.out) (by omega) hn1.out).mono ?_
    rintro e w12 ⟨rfl, b12⟩
    rw [hQ.out]
    replace ow := Lib.hid (own_below ow.out b12)
    replace og11 := Lib.hid (own_below og11.out b12)
    replace b12 := thenBelow b11 b12
    clear b11
    go_wp2_with fail
    refine (to_any (h0.out.below b12) hlx).mono ?_
    rintro e w13 ⟨rfl, o13, b13⟩
    replace ow := Lib.hid (own_below ow.out b13)
    replace og11 := Lib.hid (own_below og11.out b13)
    replace b13 := thenBelow b12 b13
    clear b12
    go_wp2_with fail
    refine (impl_Notes o13.row hmx).mono ?_
    rintro e w14 ⟨vh, rfl, oh, b14⟩
    replace ow := Lib.hid (own_below ow.out b14)
    replace og11 := Lib.hid (own_below og11.out b14)
    replace oh := Lib.hid oh
    replace b14 := thenBelow b13 b14
    clear b13 o13
    go_wp2_with fail
    refine (eq_strs oh.out ow.out).mono ?_
    rintro e w15 ⟨rfl, b15⟩
    replace og11 := Lib.hid (own_below og11.out b15)
    replace b15 := thenBelow b14 b15
    clear b14 ow oh
    go_wp2_with fail
    refine (MarkStrs.held_any (k := 1) (row_of_owns og11.out) (by omega) hn1.out).mono ?_
    rintro e w16 ⟨rfl, b16⟩
    rw [hQ.out]
    replace b16 := thenBelow b15 b16
    go_wp2
    go_ret
    exact ⟨rfl, b16⟩
  · rw [hr] at z0
    clear hr
    subst e0
    replace h0 := Lib.hid h0
    replace hx := Lib.hid hx
    go_enter Try.func3, Try.ntmps3
    go_wp2_with fail
    refine z0.out.mono ?_
    rintro e w1 ⟨rfl, b1⟩
    go_wp2
    go_ret
    exact ⟨rfl, b1⟩
theorem walk (v0 : Value) {base : Nat} {w : World} (o0 : Value.okWide Try.prog w .any base 22 v0) {H : Type} {enc : TypeId × Value → H} {d0 : DataW H} {p0 : List MemPlace} (h0 : DataW.Trod enc Try.prog w 0 (fun _ => true) true 22 v0 d0 p0) :
    Calls Try.prog 3 #[v0] w fun e w' => e = .returned (.bool true) ∧ Below w.heap.size w w' := by
  obtain ⟨xs, hx, hx1⟩ := row_signs o0 h0
  exact walkN hx hx1
theorem own : ownKnob Try.prog.godebug = none := by kernel_rfl
theorem laidOut : laidOutB Try.prog = true := by kernel_rfl
set_option maxRecDepth 100000 in
theorem lifted (os : Os) (started : os.Started) (H : Type) (enc : TypeId × Value → H) :
    ReturnsInHanded {} Try.checked os 3 .any (Rows.fnExactNotesInSpec.pre6 enc Try.prog Try.f3 Rows.fnExactNotesInRow.domain false) (Rows.fnExactNotesInSpec.post enc Try.prog Try.f3 false true false false) := by
  refine returnsInHanded_of_change (C := Try.checked) own started (by kernel_rfl) Try.func3
    (ChangeSpec.witness6 (enc := enc) (C := Try.checked) false ⟨#[], #[.slice none 0 0], []⟩ 8 (by kernel_rfl) (by kernel_rfl) (by kernel_rfl) (by kernel_rfl)) ?_
  intro W base args ds gs before hval0 hW hcnd _
  have hval : ∀ (j : Nat) t v, Try.f3.params[j]? = some t → args[j]? = some v → Value.okWide Try.prog W .any base t v := hval0
  have hW' := hW
  obtain ⟨p, q, hA0, hV, rfl, hfz, hnd⟩ := hW
  have hA : DataW.TrodAll enc Try.prog W 0 (fun _ => true) true Try.f3.params.toList args.toList ds p := hA0
  rw [Try.params3] at hA hval
  obtain ⟨v0, vs0, d0, ds0, p0, q0, hargs, rfl, rfl, h0, r0⟩ := trodAll_cons hA
  obtain ⟨rfl, rfl, rfl⟩ := trodAll_nil r0
  obtain rfl : args = #[v0] := by cases args; simp_all
  obtain ⟨rfl, rfl⟩ := trodVars_none hV
  have k0 := h0
  have o0 := hval 0 22 v0 rfl rfl
  clear hA0 hval0
  simp only [List.append_nil] at hW'
  have hlt := fun x hx => DataW.Whole.lt hW' x hx
  refine (walk v0 o0 h0).mono fun e W' ⟨he, hg⟩ => ?_
  subst he
  exact ⟨_, rfl, Post.post_of_below (pa := p0 ++ ([])) (pv := []) hW' (fun _ _ _ => (trodAll_cons_mk (shut_bool Try.underlying4 _) trodAll_mk0)) (fun sp hsp => (trodAll_cons_mk (Post.stays laidOut (by kernel_rfl) (of_decide_eq_true (by kernel_rfl)) k0 hg (fun x hx => by first | (cases hx; done) | simp [hx]) hlt hsp) trodAll_mk0)) (fun _ _ => rfl) (by simp)
    hg (ok_one (by kernel_rfl) rfl (okWide_bool_mk Try.underlying4 _))⟩

theorem over : Rows.fnExactNotesInRow.holds Try.pinned (OpenSpec.ofChange Rows.fnExactNotesInSpec) :=
  OpenClaim.holds_of_wide 3 Try.f3 rfl rfl rfl rfl rfl rfl rfl ⟨rfl, rfl, rfl, rfl, rfl⟩ rfl rfl rfl rfl rfl (by kernel_rfl) Try.func3 (by kernel_rfl)
    (of_decide_eq_true (by kernel_rfl)) (by unfold Func.isWrapper; first | (rw [if_pos (by decide +kernel)]; kernel_rfl) | (rw [if_neg (by decide +kernel)]; exact ⟨rfl, rfl⟩))
    (fun os started H enc _ => lifted os started H enc)

/-- THE STATEMENT -/
theorem proved : Rows.FnExactNotesInSaid :=
  over
end Go.Proofs.Ytfhigagbipkipaa.lawNotesIn

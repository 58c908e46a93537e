/-
  The contracts of impl.KeyWord and spec.KeyWord: each answers whether the text is one of the six, and leaves the world alone.
  Conditions: none.
-/
import Derived.Test.YtklhfjeonhjobaaDoorChecked
import Derived.WalkKit
import Derived.ProofKit
import Derived.WalkLawsBesides
import Derived.WalkSpells
namespace Go.Proofs.YtklhfjeonhjobaaDoor.KeyWord
open Go.RowKit
def kw (s : ByteArray) : Bool := s.toList == [99, 108, 97, 115, 115] || s.toList == [118, 97, 114] || s.toList == [105, 102] || s.toList == [101, 108, 115, 101] || s.toList == [119, 104, 105, 108, 101] || s.toList == [114, 101, 116, 117, 114, 110]
set_option maxHeartbeats 400000 in
theorem impl_any (s : ByteArray) (w : World) : Calls Tryd.prog 54 #[.string s] w fun e w' => e = .returned (.bool (kw s)) ∧ w = w' := by
  go_enter Tryd.func54, Tryd.ntmps54
  go_wp2
  all_goals
    go_ret
    exact ⟨by simp_all [kw], rfl⟩
set_option maxHeartbeats 400000 in
theorem spec_any (s : ByteArray) (w : World) : Calls Tryd.prog 55 #[.string s] w fun e w' => e = .returned (.bool (kw s)) ∧ w = w' := by
  go_enter Tryd.func55, Tryd.ntmps55
  go_wp2
  all_goals
    go_ret
    exact ⟨by simp_all [kw], rfl⟩
end Go.Proofs.YtklhfjeonhjobaaDoor.KeyWord

/- The field's functions of the program and of the reference: what each call returns (contracts on Calls). -/
import Derived.Test.YtdhfkhpdehgfaaaChecked
import Derived.Test.YtdhfkhpdehgfaaaPlain
import Derived.WalkKit
import Derived.WalkLawsBesides
import Derived.WalkSpells
import Derived.Outline
import Derived.Deep.QuietTactic
import Derived.BigQuiet
import Derived.Test.YtdhfkhpdehgfaaaMem
namespace Go.Proofs.Ytdhfkhpdehgfaaa
open Go.RowKit

theorem l01In_any (n lo hi : Int) (w : World) :
    Calls Try.prog 66 #[.int .i64 n, .int .i64 lo, .int .i64 hi] w fun e w' => e = .returned (.bool (inB n lo hi)) ∧ w = w' := by
  go_enter Try.func66, Try.ntmps66
  go_wp2
  all_goals go_ret
  all_goals exact ⟨by (simp [inB, *]; try omega), rfl⟩
theorem between_any (n lo hi : Int) (w : World) :
    Calls Try.prog 68 #[.int .i64 n, .int .i64 lo, .int .i64 hi] w fun e w' => e = .returned (.bool (inB n lo hi)) ∧ w = w' := by
  go_enter Try.func68, Try.ntmps68
  go_wp2
  all_goals go_ret
  all_goals exact ⟨by (simp [inB, *]; try omega), rfl⟩


end Go.Proofs.Ytdhfkhpdehgfaaa

/- The field's functions of the program and of the reference: what each call returns (contracts on Calls). -/
import Derived.Test.YtggjheapjklhgaaChecked
import Derived.Test.YtggjheapjklhgaaPlain
import Derived.WalkKit
import Derived.WalkLawsBesides
import Derived.WalkSpells
import Derived.Outline
import Derived.Deep.QuietTactic
import Derived.BigQuiet
import Derived.Test.YtggjheapjklhgaaMem
namespace Go.Proofs.Ytggjheapjklhgaa
open Go.RowKit

theorem l01In_any (n lo hi : Int) (w : World) :
    Calls Try.prog 89 #[.int .i64 n, .int .i64 lo, .int .i64 hi] w fun e w' => e = .returned (.bool (inB n lo hi)) ∧ w = w' := by
  go_enter Try.func89, Try.ntmps89
  go_wp2
  all_goals go_ret
  all_goals exact ⟨by (simp [inB, *]; try omega), rfl⟩
theorem between_any (n lo hi : Int) (w : World) :
    Calls Try.prog 81 #[.int .i64 n, .int .i64 lo, .int .i64 hi] w fun e w' => e = .returned (.bool (inB n lo hi)) ∧ w = w' := by
  go_enter Try.func81, Try.ntmps81
  go_wp2
  all_goals go_ret
  all_goals exact ⟨by (simp [inB, *]; try omega), rfl⟩


end Go.Proofs.Ytggjheapjklhgaa

/- The field's functions of the program and of the reference: what each call returns (contracts on Calls). -/
import Derived.Test.YtggjheapjklhgaaDoorChecked
import Derived.Test.YtggjheapjklhgaaDoorPlain
import Derived.WalkKit
import Derived.WalkLawsBesides
import Derived.WalkSpells
import Derived.Outline
import Derived.Deep.QuietTactic
import Derived.BigQuiet
import Derived.Test.YtggjheapjklhgaaDoorMem
namespace Go.Proofs.YtggjheapjklhgaaDoor
open Go.RowKit

theorem l01In_any (n lo hi : Int) (w : World) :
    Calls Tryd.prog 37 #[.int .i64 n, .int .i64 lo, .int .i64 hi] w fun e w' => e = .returned (.bool (inB n lo hi)) ∧ w = w' := by
  go_enter Tryd.func37, Tryd.ntmps37
  go_wp2
  all_goals go_ret
  all_goals exact ⟨by (simp [inB, *]; try omega), rfl⟩
theorem between_any (n lo hi : Int) (w : World) :
    Calls Tryd.prog 39 #[.int .i64 n, .int .i64 lo, .int .i64 hi] w fun e w' => e = .returned (.bool (inB n lo hi)) ∧ w = w' := by
  go_enter Tryd.func39, Tryd.ntmps39
  go_wp2
  all_goals go_ret
  all_goals exact ⟨by (simp [inB, *]; try omega), rfl⟩


end Go.Proofs.YtggjheapjklhgaaDoor

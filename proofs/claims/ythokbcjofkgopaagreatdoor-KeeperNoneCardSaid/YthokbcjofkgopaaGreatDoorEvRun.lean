/-
  The run of KeeperNone: by the kernel.
-/
import Derived.Test.YthokbcjofkgopaaGreatDoorEvTab
namespace Go.EV.Tryz
open Go Go.EV Go.Proofs Go.HL
set_option maxRecDepth 1000000
theorem keeper_run (r : Int) : isTrueR (callF X (evC X 100000) 3 [.v (.int .i64 r)] ⟨.e, 0⟩) = true := by kernel_rfl
end Go.EV.Tryz

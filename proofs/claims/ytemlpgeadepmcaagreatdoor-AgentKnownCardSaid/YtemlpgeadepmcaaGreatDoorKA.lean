/-
  The closed run of stockadelaw26.AgentKnown, worked out by the kernel, answers true. No conditions.
-/
import Derived.Test.YtemlpgeadepmcaaGreatDoorKP
namespace Go.Rn
open Go Go.RowKit Go.Proofs
set_option maxRecDepth 10000000
set_option maxHeartbeats 0

/-- The run of stockadelaw26.AgentKnown, worked out: it answers true. -/
theorem agent_yes : callNZ PP tbb 60 (.fn 9) [] okT hp0 2 0 .nl = .yes := by kernel_rfl
end Go.Rn

import Derived.Test.YtjiphiegpfleeaaGreatDoorRS1Closed
namespace Go.Proofs.YtjiphiegpfleeaaGreatDoorR
open Go.AM (runCall)
open Go.Proofs.S1 (TC says h0)
/-- the whole law, run by the kernel -/
theorem run_store : says (runCall TC 3000 3 [] h0) = true := by kernel_rfl
end Go.Proofs.YtjiphiegpfleeaaGreatDoorR

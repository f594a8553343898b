/-
  Closed facts of the seat's program, one theorem each: so each is reckoned by the kernel alone, within its memory.
-/
import Derived.Test.YtjiphiegpfleeaaGreatDoorRRows
import Derived.JoinedOf
import Derived.KernelRfl
namespace Go.Proofs.YtjiphiegpfleeaaGreatDoorR
open Go
theorem shared_1 : (laidOutB Tryz.prog : Bool) = true := by kernel_rfl
theorem shared_2 : (mapsRowed Tryz.prog : Bool) = true := by kernel_rfl
theorem shared_24 : (Tryz.prog.stopsHeard : Bool) = true := by kernel_rfl
theorem shared_25 : (Tryz.prog.mayEnter : Bool) = true := by kernel_rfl
theorem shared_keys : Tryz.prog.plainKeys = true := by kernel_rfl
end Go.Proofs.YtjiphiegpfleeaaGreatDoorR

/-
  Closed facts of the seat's program that each card asks.
-/
import Derived.Test.YtjiphiegpfleeaaGreatDoorRCards
import Derived.SevenTiedAt
import Derived.KernelRfl
namespace Go.Proofs.YtjiphiegpfleeaaGreatDoorR
open Go
theorem card_main : Tryz.pinned.checked.prog.mainIs = some (true, ("c58679ebd1a8c1ad4353889e0b4e24697574586c8184793f0634d620dae37b6a" : String).toList) := by kernel_rfl
theorem card_looks : true = Tryz.pinned.checked.prog.looks [] := by kernel_rfl
theorem no_goes : Tryz.prog.funcs.any Func.goes = false := by kernel_rfl
/-- where no body starts a goroutine, none that a call comes to does -/
theorem goes_none {P : Program} (h : P.funcs.any Func.goes = false) (f : FuncId) : P.goes f = false := by
  unfold Program.goes
  rw [h, Bool.and_false, Bool.or_false]
  cases hc : (P.closure f).any fun g => (P.funcs[g]?).any Func.goes with
  | false => rfl
  | true =>
    obtain ⟨g, _, hg⟩ := List.any_eq_true.1 hc
    cases hf : P.funcs[g]? with
    | none => rw [hf] at hg; cases hg
    | some fn =>
      rw [hf] at hg
      have hm : fn ∈ P.funcs := Array.mem_of_getElem? hf
      have := Array.any_eq_false.1 h
      obtain ⟨i, hi, he⟩ := Array.mem_iff_getElem.1 hm
      exact absurd (by rw [he]; exact hg) (this i hi)
theorem any_goes (o : Option FuncId) : o.any Tryz.prog.goes = false := by
  cases o with
  | none => rfl
  | some f => rw [Option.any_some]; exact goes_none (P := Tryz.prog) no_goes f
set_option maxRecDepth 100000 in
theorem goes_by (c : OpenClaim) (hs : c.start = .entering) : false = c.goesBy Tryz.pinned.checked.prog := by
  unfold OpenClaim.goesBy Program.goesAt Program.goesFrom
  rw [hs]
  show false = (((Tryz.prog.funcNamed c.func).any Tryz.prog.goes) || false)
  rw [Bool.or_false, any_goes]
end Go.Proofs.YtjiphiegpfleeaaGreatDoorR

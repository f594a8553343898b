import Derived.Test.YtjiphiegpfleeaaGreatDoorRAmSum4
import Derived.Test.YtjiphiegpfleeaaGreatDoorRProg
import Derived.KernelRfl
namespace Go.Proofs.S1
open Go Go.AM
noncomputable def ft : Trie Func := Trie.fill .leaf 0 Tryz.prog.funcs.toList
noncomputable def tt : Trie TypeInfo := Trie.fill .leaf 0 Tryz.prog.types.toList
def skip (n : Nat) : Bool := Nat.beq n 232 || Nat.beq n 264 || Nat.beq n 396 || Nat.beq n 492
def exts (n : Nat) : Option Ext := bif Nat.beq n 147 then some .clone else bif Nat.beq n 310 then some .indexByte else bif Nat.beq n 276 then some .countByte else none
/-- structs that are compared: api.Call, api.Loc -/
def flats (n : Nat) : Option (List TypeDesc) := bif Nat.beq n 32 then some [.int .i64, .string, .string] else bif Nat.beq n 84 then some [.int .i64, .int .i64, .int .i64] else none
/-- the tables without summaries -/
noncomputable def TB : Tab := mkT ft tt skip exts flats (fun _ => none)
theorem mix : Tryz.prog.follows .mixedOrders = true := by kernel_rfl
theorem hn : (Tryz.prog.funcs.toList.all fun fn => !(fn.name == "runtime.NumGoroutine")) = true := by kernel_rfl
theorem hc : ((idx Tryz.prog.funcs.toList 0).all fun x => skip x.2 || (match x.1.body with | some c => codeOk x.1.ntmps c | none => true)) = true := by kernel_rfl
theorem extsOk {T : Tab} (hT : T.ext = exts) : ExtOk Tryz.prog T := by
  intro f k h
  rw [hT] at h
  unfold exts at h
  cases h1 : Nat.beq f 147 with
  | true =>
    rw [h1] at h
    obtain rfl := Nat.eq_of_beq_eq_true h1
    simp only [cond_true, Option.some.injEq] at h; subst h
    exact ⟨Tryz.f147, Tryz.func147, by kernel_rfl, by kernel_rfl, by kernel_rfl, by kernel_rfl⟩
  | false =>
    rw [h1] at h
    cases h2 : Nat.beq f 310 with
    | true =>
      rw [h2] at h
      obtain rfl := Nat.eq_of_beq_eq_true h2
      simp only [cond_true, cond_false, Option.some.injEq] at h; subst h
      exact ⟨Tryz.f310, Tryz.func310, by kernel_rfl, by kernel_rfl, by kernel_rfl, by kernel_rfl⟩
    | false =>
      rw [h2] at h
      cases h3 : Nat.beq f 276 with
      | true =>
        rw [h3] at h
        obtain rfl := Nat.eq_of_beq_eq_true h3
        simp only [cond_true, cond_false, Option.some.injEq] at h; subst h
        exact ⟨Tryz.f276, Tryz.func276, by kernel_rfl, by kernel_rfl, by kernel_rfl, by kernel_rfl⟩
      | false => rw [h3] at h; cases h
theorem okB : TB.Ok Tryz.prog := mkT_ok rfl rfl hn
theorem und133 : TB.und 133 = some (.map 9 171) := by kernel_rfl
theorem und9 : TB.und 9 = some .string := by kernel_rfl
end Go.Proofs.S1

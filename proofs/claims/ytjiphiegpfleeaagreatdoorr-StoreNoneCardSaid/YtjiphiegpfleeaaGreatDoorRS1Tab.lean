import Derived.Test.YtjiphiegpfleeaaGreatDoorRS1Base
import Derived.Test.YtjiphiegpfleeaaGreatDoorRS1Flat
import Derived.Test.YtjiphiegpfleeaaGreatDoorRS1Used
import Derived.Test.YtjiphiegpfleeaaGreatDoorRS1Sorted
import Derived.Test.YtjiphiegpfleeaaGreatDoorRS1SortedI
import Derived.Test.YtjiphiegpfleeaaGreatDoorRS1Keys
import Derived.Test.YtjiphiegpfleeaaGreatDoorRS1Join
namespace Go.Proofs.S1
open Go Go.AM
def summs (n : Nat) : Option (List Value → AHeap → Option (Value × AHeap)) :=
  bif Nat.beq n 220 then some sumUsed else bif Nat.beq n 141 then some (sumSorted (Nat.beq 219)) else bif Nat.beq n 364 then some (sumSortedI (fun n => Nat.beq 378 n || Nat.beq 451 n)) else
  bif Nat.beq n 51 then some sumKeys else bif Nat.beq n 95 then some sumJoin else none
noncomputable def T : Tab := mkT ft tt skip exts flats summs
theorem codes : CodesOk T := mkT_codes rfl hc
theorem good : T.Good Tryz.prog := ⟨mkT_ok rfl rfl hn, flatOk (T := T) rfl, extsOk (T := T) rfl⟩
theorem bif_some {α : Type} {b : Bool} {x s : α} {r : Option α} (h : (bif b then some x else r) = some s) : (b = true ∧ x = s) ∨ r = some s := by
  cases b with
  | true => exact .inl ⟨rfl, Option.some.inj h⟩
  | false => exact .inr h
theorem summsOk : SummsOk Tryz.prog T := by
  intro f s h args hp v h' e
  change summs f = some s at h
  unfold summs at h
  rcases bif_some h with ⟨h1, rfl⟩ | h
  · obtain rfl := Nat.eq_of_beq_eq_true h1
    exact used_sound T args hp v h' e
  rcases bif_some h with ⟨h1, rfl⟩ | h
  · obtain rfl := Nat.eq_of_beq_eq_true h1
    exact sorted_sound T args hp v h' e
  rcases bif_some h with ⟨h1, rfl⟩ | h
  · obtain rfl := Nat.eq_of_beq_eq_true h1
    exact sortedI_sound T args hp v h' e
  rcases bif_some h with ⟨h1, rfl⟩ | h
  · obtain rfl := Nat.eq_of_beq_eq_true h1
    exact keys_sound T args hp v h' e
  rcases bif_some h with ⟨h1, rfl⟩ | h
  · obtain rfl := Nat.eq_of_beq_eq_true h1
    exact join_sound T args hp v h' e
  cases h
theorem sound (n : Nat) : ∀ f args h v h', runCall T n f args h = some (v, h') → CallSound Tryz.prog T f args h v h' := am_sound good mix codes summsOk n
#print axioms sound
end Go.Proofs.S1

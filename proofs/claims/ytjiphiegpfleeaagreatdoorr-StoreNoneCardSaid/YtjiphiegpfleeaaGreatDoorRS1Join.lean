import Derived.Test.YtjiphiegpfleeaaGreatDoorRAmSum6
import Derived.Test.YtjiphiegpfleeaaGreatDoorRS1Shelf
namespace Go.Proofs.S1
open Go.AM
theorem join_sound (T : Tab) (args : List Value) (h : AHeap) (v : Value) (h' : AHeap) (e : sumJoin args h = some (v, h')) : CallSound Tryz.prog T 95 args h v h' := by
  unfold sumJoin at e
  split at e
  · rename_i a n kap sep
    intro σ w args' H G ra
    obtain ⟨al⟩ := args'
    cases ra with
    | cons r1 ra => cases ra with
      | cons r2 ra =>
        cases ra
        cases r2
        cases hn : Nat.beq n 0 with
        | true =>
          rw [hn] at e
          simp only [cond_true, Option.some.injEq, Prod.mk.injEq] at e
          obtain ⟨rfl, rfl⟩ := e
          have hn0 := Nat.eq_of_beq_eq_true hn
          subst hn0
          cases r1 <;> (refine (Tryz.strings_Join_none _ _ sep w).mono ?_; rintro e w' ⟨rfl, rfl⟩; exact ⟨_, σ, rfl, Step.refl H, .string _⟩)
        | false =>
          rw [hn] at e
          simp only [cond_false] at e
          split at e
          · rename_i a b off
            split at e
            · rename_i l hl
              split at e
              · rename_i xs hxs
                cases hb : Nat.blt (Lib.join (xs.map fun x => x.data.toList) sep.data.toList).length 4294967296 && Nat.blt n 4294967296 with
                | false => rw [hb] at e; cases e
                | true =>
                  rw [hb] at e
                  simp only [cond_true, Option.some.injEq, Prod.mk.injEq] at e
                  obtain ⟨rfl, rfl⟩ := e
                  simp only [Bool.and_eq_true] at hb
                  have b1 := Nat.blt_eq.mp hb.1
                  have b2 := Nat.blt_eq.mp hb.2
                  have hn0 : n ≠ 0 := fun h => by rw [h] at hn; cases hn
                  cases r1 with
                  | slice hσ h1 h2 h3 =>
                    rename_i β base o cap
                    obtain ⟨l', q1, q2, q3⟩ := slice_cells H hσ hl
                    have hl' := strsOf_rel q1 hxs
                    subst hl'
                    simp only [List.length_map] at q2
                    rcases h3 with ⟨rfl, _⟩ | h3
                    · have := Tryz.strings_Join β (base + off) cap xs sep w (fun j x hj => q3 j (.string x) (by rw [List.getElem?_map, hj]; rfl)) (H.old _ _ _ hσ).2 (by omega) (by omega) (by omega)
                      rw [q2] at this
                      refine this.mono ?_
                      rintro e w' ⟨rfl, hbel⟩
                      exact ⟨_, σ, rfl, Step.more H hbel.block hbel.size hbel.os hbel.output, .string _⟩
                    · omega
              · cases e
            · cases e
          · cases e
  · cases e
#print axioms join_sound
end Go.Proofs.S1

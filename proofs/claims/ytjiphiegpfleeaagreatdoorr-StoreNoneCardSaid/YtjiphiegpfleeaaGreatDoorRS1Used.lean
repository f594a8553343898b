import Derived.Test.YtjiphiegpfleeaaGreatDoorRAmSum1
import Derived.Test.YtjiphiegpfleeaaGreatDoorRProg
import Derived.Tactics
import Derived.Tactics2
import Derived.Scope
import Derived.FnLit
import Derived.LoopTactic
import Derived.LoopN
import Derived.Laws.Cells
import Derived.Laws.World
import Derived.Laws.Alloc2
import Derived.Laws.Small
import Derived.Laws.Entries
import Derived.Laws.Slices
import Derived.Laws.Pointers
import Derived.Laws.Wrap64
import Derived.Laws.Unary
import Derived.IntWalk
namespace Go.Proofs.S1
open Go.AM Go.RowKit
set_option maxRecDepth 1000000 in
theorem used_walk (β s ρ : Nat) (es : Array MapEntry) (clock n : Nat) (w : World) (hc : w.cell? ⟨β, s + 1, none⟩ = some (.map (some ρ))) (hb : w.heap[ρ]? = some (.map es clock))
    (hborn : ∀ x ∈ es.toList, x.born < clock) (hnd : (es.toList.map (·.born)).Nodup) (hn : (es.toList.map (entLen w)).sum = n) (hlt : n < 4611686018427387904)
    (hv : ∀ e ∈ es.toList, ∃ p base cap, e.val = .pointer (some p) ∧ p.spot = none ∧ p.block < w.heap.size ∧ w.cell? p = some (.slice base (entLen w e) cap)) :
    Calls Tryz.prog 220 #[.pointer (some ⟨β, s, none⟩)] w fun e w' => e = .returned (.int .i64 n) ∧ ∃ (w1 : World) (o : Obj), w1.Alike w ∧ w' = w1.alloc o := by
  have hrg := run_range_map (P := Tryz.prog) w 78 9 129 ρ es clock Tryz.underlying78 hb
  go_enter Tryz.func220, Tryz.ntmps220
  go_wp2
  go_loopw [3] (fun t w' => ∃ (w1 : World) (seen : Array Nat), w1.Alike w ∧ w' = w1.alloc (.mapIter (some ρ) clock seen clock) ∧ t = .int .i64 (sumSeen (entLen w) es.toList seen : Nat)) (fun _ w' => (leftOf es (w'.iterSeen w.heap.size)).size)
  case atStart => exact ⟨w, #[], ⟨rfl, rfl, rfl⟩, rfl, by rw [sumSeen_none]; rfl⟩
  case round =>
    obtain ⟨w1, seen, hal, rfl, rfl⟩ := hrel
    have hsz : w1.heap.size = w.heap.size := by rw [hal.1]
    have hb1 : w1.heap[ρ]? = some (.map es clock) := by rw [hal.1]; exact hb
    have law := run_next_map (P := Tryz.prog) w1 0 ρ clock clock seen es clock hb1 hborn (Nat.le_refl _)
    rw [hsz] at law
    rcases law with ⟨h0, hrun⟩ | ⟨e, he, w2, hal2, hrun⟩
    · have hnx : ∀ ty, (Instr.next (.pointer (some ⟨w.heap.size, 0, none⟩)) false ty).run Tryz.prog (w1.alloc (.mapIter (some ρ) clock seen clock)) = _ := fun _ => hrun
      go_wp2
      go_ret
      rw [sumSeen_full _ seen _ (all_seen es seen h0), hn]
      exact ⟨rfl, w1, _, hal, rfl⟩
    · obtain ⟨p, base, cap, hval, hsp, hpl, hcell⟩ := hv e (mem_left he).1
      rw [hval] at hrun
      have hnx : ∀ ty, (Instr.next (.pointer (some ⟨w.heap.size, 0, none⟩)) false ty).run Tryz.prog (w1.alloc (.mapIter (some ρ) clock seen clock)) = _ := fun _ => hrun
      have hsz2 : w2.heap.size = w.heap.size := by rw [hal2.1, hal.1]
      have hb2 : w2.heap[ρ]? = some (.map es clock) := by rw [hal2.1]; exact hb1
      have hen := run_entry_map (P := Tryz.prog) w2 ρ clock seen es clock e hb2 (mem_left he).1 hnd
      rw [hsz2, hval] at hen
      obtain ⟨pb, po, ps⟩ := p
      simp only at hsp hpl; subst hsp
      have hcp : (w2.alloc (.mapIter (some ρ) clock (seen.push e.born) clock)).cell? ⟨pb, po, none⟩ = some (.slice base (entLen w e) cap) := by
        rw [← hcell]
        have : (w2.alloc (.mapIter (some ρ) clock (seen.push e.born) clock)).heap[pb]? = w.heap[pb]? := by rw [heap_alloc_old _ _ (by rw [hsz2]; exact hpl), hal2.1, hal.1]
        unfold World.cell?
        simp only [this]
      have hle := sumSeen_le (entLen w) (seen.push e.born) es.toList
      have hpush := sumSeen_push (entLen w) seen e (mem_left he).2 es.toList hnd (mem_left he).1
      go_wp2
      go_roundw
      case rel =>
        refine ⟨w2, seen.push e.born, ⟨hal2.1.trans hal.1, hal2.2.1.trans hal.2.1, hal2.2.2.trans hal.2.2⟩, rfl, ?_⟩
        rw [hpush]; rfl
      case measure =>
        rw [← hsz2, World.iterSeen_alloc, hsz2, ← hsz, World.iterSeen_alloc]
        exact left_shrinks es seen e he

theorem used_sound (T : Tab) (args : List Value) (h : AHeap) (v : Value) (h' : AHeap) (e : sumUsed args h = some (v, h')) : CallSound Tryz.prog T 220 args h v h' := by
  unfold sumUsed at e
  split at e
  · rename_i a
    split at e
    · rename_i cs hcs
      split at e
      · rename_i r hr
        split at e
        · rename_i es hes
          split at e
          · rename_i n hn
            cases hb : Nat.blt n 4611686018427387904 with
            | false => rw [hb] at e; cases e
            | true =>
              rw [hb] at e
              simp only [cond_true, Option.some.injEq, Prod.mk.injEq] at e
              obtain ⟨rfl, rfl⟩ := e
              intro σ w args' H G ra
              obtain ⟨al⟩ := args'
              cases ra with
              | cons r1 ra =>
                cases ra
                cases r1 with
                | ptr off hσ =>
                  rename_i b β s
                  obtain ⟨m', hc, hm'⟩ := cell_rel H hσ hcs hr
                  cases hm' with
                  | map hρ =>
                    obtain ⟨ents, clock, hmap, hE, hok⟩ := map_rel H hρ hes
                    obtain ⟨hsum, hall⟩ := lensOf_rel H hE hn
                    refine (used_walk β (s + off) _ ents clock n w (by rw [Nat.add_assoc]; exact hc) hmap hok.below hok.nodup hsum (Nat.blt_eq.mp hb) hall).mono ?_
                    rintro e w' ⟨rfl, w1, o, hal, rfl⟩
                    refine ⟨_, σ, rfl, ?_, .int _ _⟩
                    refine Step.more H (fun β' hβ' => ?_) ?_ hal.2.1 hal.2.2
                    · rw [heap_alloc_old _ _ (by rw [hal.1]; exact hβ'), hal.1]
                    · show w.heap.size ≤ (w1.heap.push o).size
                      rw [Array.size_push, hal.1]; omega
          · cases e
        · cases e
      · cases e
    · cases e
  · cases e
#print axioms used_sound
end Go.Proofs.S1

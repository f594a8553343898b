import Derived.Test.YtjiphiegpfleeaaGreatDoorRAmSum3
import Derived.Test.YtjiphiegpfleeaaGreatDoorRS1Shelf
namespace Go.Proofs
open Go.RowKit Go.Maps Go.Sort Go.Shelf
theorem Tryz.sortsB (m : Nat) : AnyZI.SortsIn Tryz.prog Tryz.sortedB_ren Fence.wide m :=
  ⟨fun blk off cap ss W hH hblk hsz => callsIn_wide.2 (AnyM.slices_Sort_int Tryz.sortB blk off cap ss W hH hblk hsz),
   fun p cap W => callsIn_wide.2 (AnyM.slices_Sort_int_none Tryz.sortB p cap W)⟩
namespace S1
open Go.AM
theorem sortedI_call379 {H : Type} (Bm b nn : Nat) (D0 : DataW H) (R : Value → Option (DataW H × List MemPlace)) (w : World) (hBm : Bm < w.heap.size) (hm : w.cell? ⟨Bm, 0, none⟩ = some (.map (some b)))
    (hown : w.ownsMap Tryz.prog 2 R b nn D0) (hmax : Maps.size D0 ≤ maxLen) (hbytes : Maps.size D0 * 8 ≤ 140737488355328) :
    Calls Tryz.prog 364 #[.func (.func 378) #[] #[.pointer (some ⟨Bm, 0, none⟩)]] w fun e w' => ∃ (v : Value) (ss : List Int), e = .returned v ∧ ss.Perm (intKeys D0) ∧
      w'.ownsRow w.heap.size 2 1 v ss.length ((ss.mergeSort (fun x y => decide (x ≤ y))).map encZ) ∧ (v = .slice none 0 0 ↔ ss = []) ∧ Go.RowKit.Below w.heap.size w w' := by
  refine (callsIn_wide (n := 6)).1 ?_
  have hseq : SeqGives Fence.wide 3 Tryz.prog 378 #[.pointer (some ⟨Bm, 0, none⟩)] encZ (fun ss => ss.Perm (intKeys D0)) (Maps.size D0) w :=
    AnyZI.keys_gives (ρ := Tryz.keysB_ren) { Tryz.keysB with } Fence.wide _ trivial rfl (by omega) Bm b nn D0 _ hBm hm hown
  exact AnyZI.sorted_in Tryz.sortedB Fence.wide 6 trivial trivial trivial trivial rfl (by omega) (Tryz.sortsB _) (enters_of Tryz.func377 (by kernel_rfl) rfl) 378 #[.pointer (some ⟨Bm, 0, none⟩)] trivial (enters_of Tryz.func378 (by kernel_rfl) rfl) _ _ hmax hbytes w hseq

theorem sortedI_call452 {H : Type} (Bm b nn : Nat) (D0 : DataW H) (R : Value → Option (DataW H × List MemPlace)) (w : World) (hBm : Bm < w.heap.size) (hm : w.cell? ⟨Bm, 0, none⟩ = some (.map (some b)))
    (hown : w.ownsMap Tryz.prog 2 R b nn D0) (hmax : Maps.size D0 ≤ maxLen) (hbytes : Maps.size D0 * 8 ≤ 140737488355328) :
    Calls Tryz.prog 364 #[.func (.func 451) #[] #[.pointer (some ⟨Bm, 0, none⟩)]] w fun e w' => ∃ (v : Value) (ss : List Int), e = .returned v ∧ ss.Perm (intKeys D0) ∧
      w'.ownsRow w.heap.size 2 1 v ss.length ((ss.mergeSort (fun x y => decide (x ≤ y))).map encZ) ∧ (v = .slice none 0 0 ↔ ss = []) ∧ Go.RowKit.Below w.heap.size w w' := by
  refine (callsIn_wide (n := 6)).1 ?_
  have hseq : SeqGives Fence.wide 3 Tryz.prog 451 #[.pointer (some ⟨Bm, 0, none⟩)] encZ (fun ss => ss.Perm (intKeys D0)) (Maps.size D0) w :=
    AnyZI.keys_gives (ρ := Tryz.keysC_ren) { Tryz.keysC with } Fence.wide _ trivial rfl (by omega) Bm b nn D0 _ hBm hm hown
  exact AnyZI.sorted_in Tryz.sortedB Fence.wide 6 trivial trivial trivial trivial rfl (by omega) (Tryz.sortsB _) (enters_of Tryz.func377 (by kernel_rfl) rfl) 451 #[.pointer (some ⟨Bm, 0, none⟩)] trivial (enters_of Tryz.func451 (by kernel_rfl) rfl) _ _ hmax hbytes w hseq

theorem sortedI_call (g : Nat) (hgg : g = 378 ∨ g = 451) {H : Type} (Bm b nn : Nat) (D0 : DataW H) (R : Value → Option (DataW H × List MemPlace)) (w : World) (hBm : Bm < w.heap.size) (hm : w.cell? ⟨Bm, 0, none⟩ = some (.map (some b)))
    (hown : w.ownsMap Tryz.prog 2 R b nn D0) (hmax : Maps.size D0 ≤ maxLen) (hbytes : Maps.size D0 * 8 ≤ 140737488355328) :
    Calls Tryz.prog 364 #[.func (.func g) #[] #[.pointer (some ⟨Bm, 0, none⟩)]] w fun e w' => ∃ (v : Value) (ss : List Int), e = .returned v ∧ ss.Perm (intKeys D0) ∧
      w'.ownsRow w.heap.size 2 1 v ss.length ((ss.mergeSort (fun x y => decide (x ≤ y))).map encZ) ∧ (v = .slice none 0 0 ↔ ss = []) ∧ Go.RowKit.Below w.heap.size w w' := by
  rcases hgg with rfl | rfl
  · exact sortedI_call379 Bm b nn D0 R w hBm hm hown hmax hbytes
  · exact sortedI_call452 Bm b nn D0 R w hBm hm hown hmax hbytes

theorem sortedI_sound (T : Tab) (args : List Value) (h : AHeap) (v : Value) (h' : AHeap) (e : sumSortedI (fun n => Nat.beq 378 n || Nat.beq 451 n) args h = some (v, h')) : CallSound Tryz.prog T 364 args h v h' := by
  unfold sumSortedI at e
  split at e
  · rename_i g b
    split at e
    · rename_i r _ hg hcs
      split at e
      · rename_i es hes
        split at e
        · rename_i ks hks
          cases hb : risesI (sortI ks) && Nat.blt ks.length 4294967296 with
          | false => rw [hb] at e; cases e
          | true =>
            rw [hb] at e
            simp only [cond_true, Option.some.injEq] at e
            simp only [Bool.and_eq_true] at hb
            have hlen := Nat.blt_eq.mp hb.2
            have hg' : g = 378 ∨ g = 451 := by
              rcases Bool.or_eq_true _ _ |>.mp hg with h1 | h1
              · exact .inl (Nat.eq_of_beq_eq_true h1).symm
              · exact .inr (Nat.eq_of_beq_eq_true h1).symm
            intro σ w args' H G ra
            obtain ⟨al⟩ := args'
            cases ra with
            | cons r1 ra =>
              cases ra
              cases r1 with
              | func _ q1 q2 =>
                rename_i a1 b1
                obtain ⟨a1⟩ := a1
                obtain ⟨b1⟩ := b1
                cases q1
                cases q2 with
                | cons q3 q4 =>
                  cases q4
                  cases q3 with
                  | ptr off hσ =>
                    rename_i β s
                    obtain ⟨rfl, c, hrow, hvs⟩ := H.var _ _ _ _ hσ hcs
                    cases hvs' : c.toList with
                    | nil => rw [hvs'] at hvs; cases hvs
                    | cons x xs =>
                      rw [hvs'] at hvs
                      cases hvs with
                      | cons hx _ =>
                        cases hx with
                        | map hρ =>
                          rename_i ρ
                          obtain ⟨ents, clock, hmap, hE, hok⟩ := map_rel H hρ hes
                          obtain ⟨D0, hown, hperm, hsize⟩ := ownsI_of (P := Tryz.prog) (k := 2) Tryz.underlying2 hmap hE hok hks hb.1 hlen
                          have hmx : maxLen = 9223372036854775807 := by decide
                          have hcell : w.cell? ⟨β, 0, none⟩ = some (.map (some ρ)) := by
                            rw [hrow.cell]
                            have : c.toList[0]? = some (.map (some ρ)) := by rw [hvs']; rfl
                            simpa using this
                          refine (sortedI_call _ hg' β _ _ D0 _ w hrow.lt hcell hown (by rw [hsize, hmx]; omega) (by rw [hsize]; omega)).mono ?_
                          rintro e1 w' ⟨v', ss, rfl, hp, hor, hnil, hbel⟩
                          have hms : ss.mergeSort (fun x y => decide (x ≤ y)) = sortI ks := sortedI_eq hb.1 (hp.trans hperm)
                          have hl : ss.length = (sortI ks).length := by rw [← hms, List.length_mergeSort]
                          rw [hms] at hor
                          have hflat : ∀ (τ : Emb) (l : List Int), VRels τ (l.map encZ) (l.map encZ) := by
                            intro τ l
                            induction l with
                            | nil => exact .nil
                            | cons a l ih => exact .cons (.int _ _) ih
                          obtain ⟨σ', S, hv⟩ := rowOfS_step H hor (by
                            rw [hnil, ← List.length_eq_zero_iff, hl, List.length_eq_zero_iff]
                            simp) (fun τ => hflat τ _) hbel
                          rw [show (sortI ks).map encZ = (sortI ks).map encZ from rfl, e] at S hv
                          exact ⟨_, σ', rfl, S, hv⟩
        · cases e
      · cases e
    · cases e
  · cases e
end S1
end Go.Proofs

import Derived.Test.YtjiphiegpfleeaaGreatDoorRAmKeep
namespace Go.AM
section
variable {T : Tab}
theorem mono_all (n : Nat) :
    (∀ c e h r, runCode T n c e h = some r → runCode T (n + 1) c e h = some r) ∧
    (∀ all ops e h r, runOps T n all ops e h = some r → runOps T (n + 1) all ops e h = some r) ∧
    (∀ all f es k e h r, runParts T n all f es k e h = some r → runParts T (n + 1) all f es k e h = some r) ∧
    (∀ f args h r, runCall T n f args h = some r → runCall T (n + 1) f args h = some r) := by
  induction n with
  | zero =>
    refine ⟨fun c e h r hr => ?_, fun all ops e h r hr => ?_, fun all f es k e h r hr => ?_, fun f args h r hr => ?_⟩
    · unfold runCode at hr; cases hr
    · unfold runOps at hr; cases hr
    · unfold runParts at hr; cases hr
    · unfold runCall at hr; cases hr
  | succ n ih =>
    obtain ⟨ih1, ih2, ih3, ih4⟩ := ih
    refine ⟨fun c e h r hr => ?_, fun all ops e h r hr => ?_, fun all f es k e h r hr => ?_, fun f args h r hr => ?_⟩
    · cases c with
      | skip => unfold runCode at hr ⊢; exact hr
      | exit i => unfold runCode at hr ⊢; exact hr
      | ret => unfold runCode at hr ⊢; exact hr
      | rangeFunc _ _ _ _ => unfold runCode at hr; cases hr
      | scope _ => unfold runCode at hr; cases hr
      | label _ => unfold runCode at hr; cases hr
      | goto _ => unfold runCode at hr; cases hr
      | refuse _ => unfold runCode at hr; cases hr
      | seq a b =>
        unfold runCode at hr ⊢
        simp only at hr ⊢
        cases ha : runCode T n a e h with
        | none => rw [ha] at hr; cases hr
        | some x =>
          rw [ih1 _ _ _ _ ha]
          rw [ha] at hr
          obtain ⟨x, e1, h1⟩ := x
          cases x with
          | normal => exact ih1 _ _ _ _ hr
          | exit i => exact hr
          | ret => exact hr
      | cond x a b =>
        unfold runCode at hr ⊢
        simp only at hr ⊢
        split at hr
        · rename_i q _
          cases q with
          | true => exact ih1 _ _ _ _ hr
          | false => exact ih1 _ _ _ _ hr
        · cases hr
      | block id b =>
        unfold runCode at hr ⊢
        simp only at hr ⊢
        cases ha : runCode T n b e h with
        | none => rw [ha] at hr; cases hr
        | some x =>
          rw [ih1 _ _ _ _ ha]
          rw [ha] at hr
          exact hr
      | loop b =>
        unfold runCode at hr ⊢
        simp only at hr ⊢
        cases ha : runCode T n b e h with
        | none => rw [ha] at hr; cases hr
        | some x =>
          rw [ih1 _ _ _ _ ha]
          rw [ha] at hr
          obtain ⟨x, e1, h1⟩ := x
          cases x with
          | normal => exact ih1 _ _ _ _ hr
          | exit i => exact hr
          | ret => exact hr
      | region id ops d =>
        cases d with
        | false =>
          unfold runCode at hr ⊢
          simp only at hr ⊢
          cases ha : runOps T n ops.toList ops.toList e h with
          | none => rw [ha] at hr; cases hr
          | some x => rw [ih2 _ _ _ _ _ ha]; rw [ha] at hr; exact hr
        | true =>
          unfold runCode at hr ⊢
          simp only at hr ⊢
          cases hd : drawStatic ops.toList with
          | false => rw [hd] at hr; cases hr
          | true =>
            rw [hd] at hr
            simp only [cond_true] at hr ⊢
            cases ha : runParts T n ops.toList (drawPart (masks ops.toList []) (idx ops.toList 0)) ((idx ops.toList 0).filter fun x => isEf x.1.op) 0 e h with
            | none => rw [ha] at hr; cases hr
            | some x => rw [ih3 _ _ _ _ _ _ _ ha]; rw [ha] at hr; exact hr
    · cases ops with
      | nil => unfold runOps at hr ⊢; exact hr
      | cons o rest =>
        unfold runOps at hr ⊢
        simp only at hr ⊢
        split at hr
        · split at hr
          · exact ih2 _ _ _ _ _ hr
          · exact ih2 _ _ _ _ _ hr
          · rename_i f args h1 _
            cases ha : runCall T n f args h1 with
            | none => rw [ha] at hr; cases hr
            | some x => rw [ih4 _ _ _ _ ha]; rw [ha] at hr; exact ih2 _ _ _ _ _ hr
          · cases hr
        · exact ih2 _ _ _ _ _ hr
        · cases hr
    · unfold runParts at hr ⊢
      split at hr
      · cases hr
      · rename_i tr e1 h1 ht
        split at hr
        · exact hr
        · rename_i o i es
          have fin : ∀ (e2 : Trie Value) (h2 : AHeap) (g : List (Nat × TE) → List (Nat × TE)), (match runParts T n all f es (k + 1) e2 h2 with
                | some (tr', r) => some (g tr', r)
                | none => none) = some r → (match runParts T (n + 1) all f es (k + 1) e2 h2 with
                | some (tr', r) => some (g tr', r)
                | none => none) = some r := by
            intro e2 h2 g hh
            cases ha : runParts T n all f es (k + 1) e2 h2 with
            | none => rw [ha] at hh; cases hh
            | some x => rw [ih3 _ _ _ _ _ _ _ ha]; rw [ha] at hh; exact hh
          split at hr
          · split at hr
            · exact fin _ _ (fun tr' => tr ++ (i, _) :: tr') hr
            · exact fin _ _ (fun tr' => tr ++ (i, _) :: tr') hr
            · rename_i g args h2 _
              cases ha : runCall T n g args h2 with
              | none => rw [ha] at hr; cases hr
              | some x => rw [ih4 _ _ _ _ ha]; rw [ha] at hr; exact fin _ _ (fun tr' => tr ++ (i, _) :: tr') hr
            · cases hr
          · exact fin _ _ (fun tr' => tr ++ (i, _) :: tr') hr
          · cases hr
    · unfold runCall at hr ⊢
      split at hr
      · exact hr
      · split at hr
        · split at hr
          · rename_i fn _ c _
            cases ha : runCode T n c (Trie.fill .leaf 0 args) h with
            | none => rw [ha] at hr; cases hr
            | some x => rw [ih1 _ _ _ _ ha]; rw [ha] at hr; exact hr
          · cases hr
        · cases hr

theorem mono_code {n m : Nat} (h : n ≤ m) {c : Code} {e : Trie Value} {hp : AHeap} {r} (hr : runCode T n c e hp = some r) : runCode T m c e hp = some r := by
  induction h with
  | refl => exact hr
  | step _ ih => exact (mono_all _).1 _ _ _ _ ih
theorem mono_ops {n m : Nat} (h : n ≤ m) {all ops : List Oper} {e : Trie Value} {hp : AHeap} {r} (hr : runOps T n all ops e hp = some r) : runOps T m all ops e hp = some r := by
  induction h with
  | refl => exact hr
  | step _ ih => exact (mono_all _).2.1 _ _ _ _ _ ih
theorem mono_call {n m : Nat} (h : n ≤ m) {f : Nat} {args : List Value} {hp : AHeap} {r} (hr : runCall T n f args hp = some r) : runCall T m f args hp = some r := by
  induction h with
  | refl => exact hr
  | step _ ih => exact (mono_all _).2.2.2 _ _ _ _ ih
end
end Go.AM

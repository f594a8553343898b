import Derived.Test.YtjiphiegpfleeaaGreatDoorRAmOp2
import Derived.Laws.Strings
namespace Go.AM

/-- structs that may be compared cell by cell -/
def FlatOk (P : Program) (T : Tab) : Prop := ∀ t ds, T.flat t = some ds → (P.eqGuardType P.depth t = false) ∧
  ∀ (w : World) (a b : Array Value) (r : Bool), cellsAre ds a.toList = true → cellsAre ds b.toList = true → listEq a.toList b.toList = some r → (Op.equal t (.agg a) (.agg b)).run P w = .ok r w

section
variable {P : Program} {T : Tab} {σ : Emb} {h h' : AHeap} {w : World}

theorem run_intBin {op : BinOp} {k : IntKind} {a b : Int} {v : Value} (t : TypeId) (e : intBin op k a b = some v) :
    (binOp op t (.int k a) (.int k b)).run P w = .ok v w ∧ VRel σ v v := by
  cases op <;> simp only [intBin] at e <;> first
    | (cases e; done)
    | (simp only [Option.some.injEq] at e; subst e
       first
         | exact ⟨by simp only [binOp, ne_eq, not_true_eq_false, if_false, Op.intArith, Sem.run_pure], .int _ _⟩
         | exact ⟨by simp only [binOp, ne_eq, not_true_eq_false, if_false, Op.intCmp, Sem.run_pure], .bool _⟩)
    | (cases hb : b == 0 with
       | true => rw [hb] at e; cases e
       | false =>
         rw [hb] at e; simp only [cond_false, Option.some.injEq] at e; subst e
         have hb' : ¬ b = 0 := by simpa using hb
         exact ⟨by simp only [binOp, ne_eq, not_true_eq_false, if_false, Op.intDiv, hb', Sem.run_pure], .int _ _⟩)
    | (simp only [Op.intBits, Pure.pure, Option.some.injEq] at e; subst e
       exact ⟨by simp only [binOp, ne_eq, not_true_eq_false, if_false, Op.intBits, Sem.run_pure], .int _ _⟩)

theorem bytes_add (a b : ByteArray) : strOf (strBytes a ++ strBytes b) = .string (a ++ b) := by
  unfold strOf strBytes
  congr 1

theorem run_strBin {op : BinOp} {a b : ByteArray} {v : Value} (t : TypeId) (e : strBin op a b = some v) :
    (binOp op t (.string a) (.string b)).run P w = .ok v w ∧ VRel σ v v := by
  cases op <;> simp only [strBin] at e <;> first
    | (cases e; done)
    | (simp only [Option.some.injEq] at e; subst e
       exact ⟨by simp only [binOp, Op.stringOp, ByteArray.toList_eq, strBytes, Sem.run_pure], .bool _⟩)
    | (cases hb : Nat.blt (a.size + b.size) 4294967296 with
       | false => rw [hb] at e; cases e
       | true =>
         rw [hb] at e; simp only [cond_true, Option.some.injEq] at e; subst e
         have hb' : a.size + b.size < 4294967296 := Nat.blt_eq.mp hb
         have hn : ¬ (((a.size + b.size : Nat) : Int) > IntKind.i64.max) := by
           have : IntKind.i64.max = 9223372036854775807 := by decide
           omega
         refine ⟨?_, by rw [bytes_add]; exact .string _⟩
         rw [bytes_add]
         simp only [binOp, Op.stringOp, Sem.run_ite, hn, if_false, Sem.run_pure])

/-- equality of values that are no numbers and no strings -/
theorem run_eqA (hT : T.Ok P) (hF : FlatOk P T) {t : Nat} {ox oy : Operand} {x y x' y' : Value} {b : Bool} (rx : VRel σ x x') (ry : VRel σ y y')
    (e : eqA T (isConst ox || isConst oy) t x y = some b) :
    (∀ op, (eqGuard op t ox oy x' y').run P w = .ok () w) ∧ (Op.equal t x' y').run P w = .ok b w ∧
      binOp .eql t x' y' = (do pure (.bool (← Op.equal t x' y'))) ∧ binOp .neq t x' y' = (do pure (.bool (!(← Op.equal t x' y')))) := by
  by_cases hagg : ∃ p q, x = .agg p ∧ y = .agg q
  · obtain ⟨p, q, rfl, rfl⟩ := hagg
    unfold eqA at e
    split at e <;> first | (rename_i h1 h2 h3; cases h2; done) | (rename_i h1 h2; cases h1; done) | (cases e; done) | skip
    rename_i fs p' q' hu h1 h2
    cases h1; cases h2
    cases hf : T.flat t with
    | none => rw [hf] at e; cases e
    | some ds =>
      rw [hf] at e
      cases hcs : cellsAre ds p.toList && cellsAre ds q.toList with
      | false => simp only [hcs] at e; cases e
      | true =>
      simp only [hcs, cond_true] at e
      simp only [Bool.and_eq_true] at hcs
      obtain ⟨g, he⟩ := hF t ds hf
      have hsh : ∀ {ds : List TypeDesc} {a c : List Value}, cellsAre ds a = true → VRels σ a c → cellsAre ds c = true := by
        intro ds
        induction ds with
        | nil => intro a c hh ra; cases ra with
          | nil => rfl
          | cons _ _ => cases hh
        | cons d ds ih => intro a c hh ra; cases ra with
          | nil => cases hh
          | cons r1 r2 =>
            simp only [cellsAre, Bool.and_eq_true] at hh ⊢
            refine ⟨?_, ih hh.2 r2⟩
            have h1 := hh.1
            cases r1 <;> cases d <;> first | exact h1 | cases h1
      cases rx with
      | agg r1 => cases ry with
        | agg r2 =>
          rename_i p' q'
          have hl : ∀ {a b c d : List Value} {r : Bool}, listEq a b = some r → VRels σ a c → VRels σ b d → listEq c d = some r := by
            intro a
            induction a with
            | nil =>
              intro b c d r hh ra rb
              cases b with
              | nil => cases ra; cases rb; exact hh
              | cons _ _ => cases hh
            | cons u a ih =>
              intro b c d r hh ra rb
              cases b with
              | nil => cases hh
              | cons z b =>
                cases ra with
                | cons hu ta => cases rb with
                  | cons hz tb =>
                    simp only [listEq] at hh ⊢
                    have hs : ∀ r', scalarEq u z = some r' → ∀ u' z', VRel σ u u' → VRel σ z z' → scalarEq u' z' = some r' := by
                      intro r' hr u' z' h1 h2
                      cases h1 <;> cases h2 <;> first | exact hr | cases hr
                    cases hse : scalarEq u z with
                    | none => rw [hse] at hh; cases hh
                    | some r' =>
                      rw [hs r' hse _ _ hu hz]
                      rw [hse] at hh
                      cases r' with
                      | true => exact ih hh ta tb
                      | false =>
                        dsimp only at hh ⊢
                        cases hl : listEq a b with
                        | none => rw [hl] at hh; cases hh
                        | some r'' => rw [ih hl ta tb]; rw [hl] at hh; exact hh
          refine ⟨fun op => ?_, he w _ _ b (hsh hcs.1 r1) (hsh hcs.2 r2) (hl e r1 r2), rfl, rfl⟩
          cases op <;> simp [eqGuard, g]
  · have eqd : ∀ {b}, (∀ d, (Op.equalIn (d + 1) t x' y').run P w = .ok b w) → (Op.equal t x' y').run P w = .ok b w := fun h => h 9999
    unfold eqA at e
    split at e <;> first
      | (cases e; done)
      | (exfalso; exact hagg ⟨_, _, rfl, rfl⟩)
      | (rename_i hu
         have ru := run_und (P := P) w (hT.und _ _ hu)
         cases rx <;> cases ry <;> (try simp only [Option.some.injEq] at e) <;> (try subst e) <;>
           (refine ⟨fun op => ?_, eqd fun d => ?_, rfl, rfl⟩
            · cases op <;> rfl
            · simp only [Op.equalIn, Sem.run_bind, ru, Result.andThen_ok, Sem.run_pure, Option.isNone]; done))
      | skip
    rename_i ms hu
    have ru := run_und (P := P) w (hT.und _ _ hu)
    cases hc : (isConst ox || isConst oy) with
    | false => rw [hc] at e; cases e
    | true =>
      rw [hc] at e
      simp only [cond_true, Option.some.injEq] at e; subst e
      cases rx; cases ry
      refine ⟨fun op => ?_, eqd fun d => ?_, rfl, rfl⟩
      · cases op <;> first | rfl | (cases ox <;> cases oy <;> first | rfl | (simp [isConst] at hc; done))
      · simp only [Op.equalIn, Sem.run_bind, ru, Result.andThen_ok, Sem.run_pure]
end
end Go.AM

import Derived.Test.YtjiphiegpfleeaaGreatDoorRAmOp6
namespace Go.AM

section
variable {P : Program} {T : Tab} {σ : Emb} {h h' : AHeap} {w : World}

theorem growBy_le (n : Nat) : ∀ (r c : Nat), Builtin.growBy n r c ≤ max c (2 * n + 200)
  | 0, c => by simp only [Builtin.growBy]; omega
  | r + 1, c => by
    simp only [Builtin.growBy]
    split
    · omega
    · have := growBy_le n r (c + (c + 768) / 4)
      omega

theorem nextcap_le {n c : Nat} (h : c ≤ n) : Builtin.nextslicecap n c ≤ 2 * n + 200 := by
  unfold Builtin.nextslicecap
  split
  · omega
  · split
    · omega
    · have := growBy_le n 4 c; omega

/-- what is appended -/
theorem source_rel (P : Program) (H : HRel σ h w) {k n : Nat} {x x' : Value} {l : List Value} (rx : VRel σ x x') (e : sourceCells h k x = some (n, l)) :
    l.length = n * k ∧ (Builtin.lenOf x').run P w = .ok n w ∧ ∃ l', VRels σ l l' ∧ (Builtin.firstCells k n x').run P w = .ok l'.toArray w := by
  unfold sourceCells at e
  split at e
  · rename_i s
    cases hk : Nat.beq k 1 with
    | false => rw [hk] at e; cases e
    | true =>
      rw [hk] at e; simp only [cond_true, Option.some.injEq, Prod.mk.injEq] at e
      obtain ⟨rfl, rfl⟩ := e
      have := Nat.eq_of_beq_eq_true hk; subst this
      cases rx
      refine ⟨by simp [strBytes], rfl, (strBytes s).map (fun b => Value.int .u8 b.toNat), ?_, ?_⟩
      · generalize strBytes s = l
        induction l with
        | nil => exact .nil
        | cons b l ih => exact .cons (.int _ _) ih
      · simp only [Builtin.firstCells, Sem.run_pure]
        congr 1
        apply Array.ext'
        simp only [Array.toList_map, strBytes]
        have : (s.extract 0 s.size) = s := by
          apply ByteArray.ext
          simp
        rw [this]
  · simp only [Option.some.injEq, Prod.mk.injEq] at e
    obtain ⟨rfl, rfl⟩ := e
    cases rx
    exact ⟨by simp, rfl, [], .nil, rfl⟩
  · rename_i a len kap
    split at e
    · rename_i l' hl
      simp only [Option.some.injEq, Prod.mk.injEq] at e
      obtain ⟨rfl, rfl⟩ := e
      have hlen : l'.length = len * k := by
        unfold sliceCells at hl
        split at hl
        · exact (seg_val hl).2
        · cases hl
      have hsp : len = 0 ∨ a.spot = none := by
        cases rx with
        | slice => exact .inr rfl
        | tight => exact .inl rfl
      obtain ⟨a', cap, rfl, l2, hr, hv⟩ := slice_run (P := P) H rx (k := k) (n := len) (Nat.le_refl _) hsp hl
      exact ⟨hlen, rfl, l2, hv, hr⟩
    · cases e
  · cases e

theorem rowElem_spec (hT : T.Ok P) (w : World) {e k bytes : Nat} (h : rowElem T e = some (k, bytes)) :
    ∃ i z, P.info? e = some i ∧ i.size = k ∧ i.bytes = bytes ∧ (zeroValue e).run P w = .ok z w ∧ z.cells.size = k := by
  unfold rowElem at h
  split at h
  · rename_i i z hi hz
    cases hb : Nat.beq (vcells z).length i.size with
    | false => rw [hb] at h; cases h
    | true =>
      rw [hb] at h; simp only [cond_true, Option.some.injEq, Prod.mk.injEq] at h
      have hv : vcells z = z.cells.toList := by cases z <;> rfl
      refine ⟨i, z, hT.info _ _ hi, h.1, h.2, (run_zero hT w hz).1, ?_⟩
      have := Nat.eq_of_beq_eq_true hb
      rw [hv] at this
      simp only [Array.length_toList] at this
      omega
  · cases h

theorem zeroCells_size (z : Array Value) (n : Nat) : (Builtin.zeroCells z n).size = n * z.size := by simp [Builtin.zeroCells]

/-- append, made anew: the tail of the model's text -/
theorem run_grow (hT : T.Ok P) {e k bytes need sLen sCap n : Nat} {s' x' : Value} {old new : List Value} (hre : rowElem T e = some (k, bytes))
    (hold : (Builtin.firstCells k sLen s').run P (drawn1 w) = .ok old.toArray (drawn1 w)) (hnew : (Builtin.firstCells k n x').run P (drawn1 w) = .ok new.toArray (drawn1 w))
    (hl1 : old.length = sLen * k) (hl2 : new.length = n * k) (hneed : need = sLen + n) :
    ∃ (c : Array Value) (cap : Nat), need ≤ cap ∧ c.size = cap * k ∧ c.toList.take (need * k) = old ++ new ∧
      (do
        let newCap ← choose (.appendCap need sCap e)
        askRoom (newCap * bytes)
        let old ← Builtin.firstCells k sLen s'
        let new ← Builtin.firstCells k n x'
        let rest := Builtin.zeroCells (← zeroValue e).cells (newCap - need)
        pure (.slice (some (← newRow e (old ++ new ++ rest))) need newCap) : Sem Value).run P w =
      .ok (.slice (some ⟨w.heap.size, 0, none⟩) need cap) ((drawn1 w).alloc (.cells c e)) := by
  obtain ⟨i, z, hi, hk, hb, rz, hz⟩ := rowElem_spec hT (drawn1 w) hre
  let cap := Question.cut (.appendCap need sCap e) (w.tape w.drawn (.appendCap need sCap e))
  have hcap : need ≤ cap := by simp only [cap, Question.cut]; omega
  let c : Array Value := old.toArray ++ new.toArray ++ Builtin.zeroCells z.cells (cap - need)
  refine ⟨c, cap, hcap, ?_, ?_, ?_⟩
  · simp only [c, Array.size_append, zeroCells_size, hz, List.size_toArray, hl1, hl2]
    rw [← Nat.add_mul, ← Nat.add_mul]; congr 1; omega
  · simp only [c, Array.toList_append]
    rw [List.take_append_of_le_length (by simp [hl1, hl2, hneed, Nat.add_mul]), List.take_of_length_le (by simp [hl1, hl2, hneed, Nat.add_mul])]
  · rw [Sem.run_bind, run_choose, if_neg (by simp [Question.forced])]
    simp only [Result.andThen_ok, Sem.run_bind, run_askRoom]
    rw [show ({ heap := w.heap, tape := w.tape, drawn := w.drawn + 1, os := w.os, output := w.output } : World) = drawn1 w from rfl]
    simp only [hold, hnew, rz, Result.andThen_ok, run_newRow, Sem.run_pure]
    rfl

/-- append: the model's text, behind its first tests -/
theorem run_append (hT : T.Ok P) {t : Nat} {ats : Array TypeId} {ty : TypeId} {e k bytes n sLen sCap : Nat} {base : Option Addr} {x' : Value} (h0 : ats[0]? = some t)
    (h1 : ats[1]? = none ∨ ∃ u d, ats[1]? = some u ∧ T.und u = some d ∧ ∀ ik, d ≠ .int ik)
    (hu : T.und t = some (.slice e)) (hre : rowElem T e = some (k, bytes)) (hlen : (Builtin.lenOf x').run P w = .ok n w) (hroom : (sLen + n) * (bytes + 1) < roomy) :
    (Builtin.append_ ats ty #[.slice base sLen sCap, x']).run P w =
      (if sLen + n ≤ sCap then (do
          let new ← Builtin.firstCells k n x'
          if let some a := base then storeCells (a.add (sLen * k)) new.toList
          pure (.slice base (sLen + n) sCap) : Sem Value)
        else (do
          let newCap ← choose (.appendCap (sLen + n) sCap e)
          askRoom (newCap * bytes)
          let old ← Builtin.firstCells k sLen (.slice base sLen sCap)
          let new ← Builtin.firstCells k n x'
          let rest := Builtin.zeroCells (← zeroValue e).cells (newCap - (sLen + n))
          pure (.slice (some (← newRow e (old ++ new ++ rest))) (sLen + n) newCap) : Sem Value)).run P w := by
  obtain ⟨i, z, hi, hk, hb, rz, hz⟩ := rowElem_spec hT w hre
  have hroomy : roomy = 4294967296 := rfl
  rw [hroomy] at hroom
  have hneed : sLen + n < 4294967296 := Nat.lt_of_le_of_lt (Nat.le_mul_of_pos_right _ (Nat.succ_pos bytes)) hroom
  have hmax : ¬ (((sLen + n : Nat) : Int) > IntKind.i64.max ∧ (false = true ∨ bytes = 0)) := by
    have : IntKind.i64.max = 9223372036854775807 := by decide
    omega
  have hmax' : ¬ (((sLen + n : Nat) : Int) > IntKind.i64.max ∧ (False ∨ bytes = 0)) := by
    have : IntKind.i64.max = 9223372036854775807 := by decide
    omega
  have hnc : ¬ (sLen + n ≤ sCap) → ¬ (Builtin.nextslicecap (sLen + n) sCap * bytes > 2 ^ 48) := by
    intro h
    have e1 : (2 : Nat) ^ 48 = 281474976710656 := by decide
    have e2 := Nat.mul_le_mul_right bytes (nextcap_le (n := sLen + n) (c := sCap) (by omega))
    have e3 : (2 * (sLen + n) + 200) * bytes = 2 * ((sLen + n) * bytes) + 200 * bytes := by rw [Nat.add_mul, Nat.mul_assoc]
    have e4 : (sLen + n) * bytes ≤ (sLen + n) * (bytes + 1) := Nat.mul_le_mul_left _ (Nat.le_succ _)
    have e5 : bytes ≤ (sLen + n) * (bytes + 1) := by
      have h1 : 1 * (bytes + 1) ≤ (sLen + n) * (bytes + 1) := Nat.mul_le_mul_right _ (by omega)
      omega
    omega
  have ri := run_info w hi
  have rs : (sizeOf e).run P w = .ok k w := by simp only [sizeOf, Sem.run_bind, ri, Result.andThen_ok, Sem.run_pure, hk]
  have ha0 : (#[Value.slice base sLen sCap, x'] : Array Value)[0]? = some (.slice base sLen sCap) := rfl
  have ha1 : (#[Value.slice base sLen sCap, x'] : Array Value)[1]? = some x' := rfl
  unfold Builtin.append_
  simp only [h0, ha0, ha1]
  rw [Sem.run_bind, run_und w (hT.und _ _ hu)]
  simp only [Result.andThen_ok]
  rw [Sem.run_bind, rs]
  simp only [Result.andThen_ok]
  rcases h1 with h1 | ⟨u, d, h1, hd, hne⟩
  · rw [h1]
    simp only [Sem.run_bind, Sem.run_pure, Result.andThen_ok, Bool.false_eq_true, if_false, Sem.run_ite, hlen, Bool.not_false, if_true, ri, hb, hmax]
    by_cases hle : sLen + n ≤ sCap
    · rw [if_pos hle, if_pos hle]
      rfl
    · rw [if_neg hle, if_neg hle]
      simp only [hnc hle, if_false, run_choose, Question.forced, Bool.false_eq_true, Result.andThen_ok, run_askRoom, run_info _ hi, hb]
      rw [if_neg hmax']
  · rw [h1]
    have hz : (match d with | TypeDesc.int k => true | x => false) = false := by cases d <;> first | exact absurd rfl (hne _) | rfl
    simp only [Sem.run_bind, run_und w (hT.und _ _ hd), Sem.run_pure, Result.andThen_ok, hz, Bool.false_eq_true, if_false, Sem.run_ite, hlen, Bool.not_false, if_true, ri, hb, hmax]
    by_cases hle : sLen + n ≤ sCap
    · rw [if_pos hle, if_pos hle]
      rfl
    · rw [if_neg hle, if_neg hle]
      simp only [hnc hle, if_false, run_choose, Question.forced, Bool.false_eq_true, Result.andThen_ok, run_askRoom, run_info _ hi, hb]
      rw [if_neg hmax']
end
end Go.AM

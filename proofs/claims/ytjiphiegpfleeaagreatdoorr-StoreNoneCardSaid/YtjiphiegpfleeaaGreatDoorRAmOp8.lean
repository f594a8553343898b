import Derived.Test.YtjiphiegpfleeaaGreatDoorRAmOp7
namespace Go.AM

section
variable {P : Program} {T : Tab} {σ : Emb} {h h' : AHeap} {w : World}

theorem drawn1_step (H : HRel σ h w) : Step σ h w σ h (drawn1 w) := Step.drawn H rfl rfl rfl rfl

/-- a fresh row that holds what is appended -/
theorem append_fresh (hT : T.Ok P) (H : HRel σ h w) {e k bytes n sCap : Nat} {base : Option Addr} {x x' : Value} {new : List Value} {ats : Array TypeId} {ty : TypeId} {t : Nat} (h0 : ats[0]? = some t)
    (h1 : ats[1]? = none ∨ ∃ u d, ats[1]? = some u ∧ T.und u = some d ∧ ∀ ik, d ≠ .int ik)
    (hu : T.und t = some (.slice e)) (hre : rowElem T e = some (k, bytes)) (rx : VRel σ x x') (hsrc : sourceCells h k x = some (n, new)) (hroom : (0 + n) * (bytes + 1) < roomy)
    (hn : 0 < n) (hcap : sCap = 0) :
    OpRes P σ h w (do pure (.value (← Builtin.append_ ats ty #[.slice base 0 sCap, x']))) (.value (.slice (some ⟨h.next, 0, none⟩) n n)) (h.newRow k new).2 := by
  subst hcap
  obtain ⟨q1, q2, _⟩ := source_rel P H rx hsrc
  have S1 := drawn1_step H
  obtain ⟨_, _, new', q3, q4⟩ := source_rel P S1.rel rx hsrc
  have hl' : new'.length = n * k := by rw [← q3.length]; exact q1
  have hold : (Builtin.firstCells k 0 (.slice base 0 0)).run P (drawn1 w) = .ok ([] : List Value).toArray (drawn1 w) := by
    cases base with
    | none => rfl
    | some a => simp only [Builtin.firstCells, Nat.zero_mul]; rfl
  obtain ⟨c, cap, c1, c2, c3, c4⟩ := run_grow hT (need := 0 + n) (sLen := 0) (sCap := 0) hre hold q4 (by simp) hl' rfl
  have hnk : n * k ≤ c.size := by rw [c2]; exact Nat.mul_le_mul_right k (by omega)
  have S2 := newRow_step S1.rel e k (vs := new) (c := c) (0, 0) (.inl (Nat.le_refl _)) (by omega) (by
    rw [q1]; rw [Nat.zero_add] at c3; rw [c3]; simpa using q3)
  refine resStep (S1.trans S2) (v' := .slice (some ⟨w.heap.size, 0, none⟩) n cap) ?_ (newRow_val σ h (drawn1 w) (Nat.le_refl _) (by omega) (.inr (by rw [c2]; exact Nat.le_refl _)))
  rw [run_append hT h0 h1 hu hre q2 hroom, if_neg (by omega)]
  rw [Nat.zero_add] at c4 ⊢
  exact c4

theorem take_drop_congr {c c' : Array Value} {s n : Nat} (h : ∀ j, s ≤ j → j < s + n → c'[j]? = c[j]?) : (c'.toList.drop s).take n = (c.toList.drop s).take n := by
  apply List.ext_getElem?
  intro i
  by_cases hi : i < n
  · rw [List.getElem?_take_of_lt hi, List.getElem?_take_of_lt hi, List.getElem?_drop, List.getElem?_drop, Array.getElem?_toList, Array.getElem?_toList]
    exact h (s + i) (by omega) (by omega)
  · rw [List.getElem?_take_eq_none (by omega), List.getElem?_take_eq_none (by omega)]

theorem snd_append (hT : T.Ok P) (H : HRel σ h w) {ats : Array TypeId} {ty : TypeId} {t : Nat} {s x s' x' v : Value} (h0 : ats[0]? = some t)
    (h1 : ats[1]? = none ∨ ∃ u d, ats[1]? = some u ∧ T.und u = some d ∧ ∀ ik, d ≠ .int ik) (rs : VRel σ s s') (rx : VRel σ x x') (ee : appendA T h t s x = some (v, h')) :
    OpRes P σ h w (do pure (.value (← Builtin.append_ ats ty #[s', x']))) (.value v) h' := by
  unfold appendA at ee
  split at ee
  · rename_i e base len kap hu
    split at ee
    · rename_i k bytes hre
      split at ee
      · rename_i n new hsrc
        cases hb : Nat.blt ((len + n) * (bytes + 1)) roomy with
        | false => rw [hb] at ee; cases ee
        | true =>
          rw [hb] at ee; simp only [cond_true] at ee
          have hroom : (len + n) * (bytes + 1) < roomy := Nat.blt_eq.mp hb
          obtain ⟨q1, q2, new', q3, q4⟩ := source_rel P H rx hsrc
          -- nothing is appended
          have none_app : ∀ {base' : Option Addr} {cap : Nat}, s' = .slice base' len cap → len ≤ cap → n = 0 →
              (Builtin.append_ ats ty #[s', x']).run P w = .ok (.slice base' len cap) w := by
            intro base' cap hs' hle hn
            subst hs'; subst hn
            rw [run_append hT h0 h1 hu hre q2 hroom, if_pos (by omega)]
            have : new' = [] := List.eq_nil_of_length_eq_zero (by rw [← q3.length, q1]; simp)
            subst this
            simp only [Sem.run_bind, q4, Result.andThen_ok]
            cases base' with
            | none => rfl
            | some a => rfl
          split at ee
          · -- a nil slice
            cases rs with
            | nilSlice =>
              cases hn : Nat.beq n 0 with
              | true =>
                rw [hn] at ee; simp only [cond_true, Option.some.injEq, Prod.mk.injEq] at ee
                obtain ⟨rfl, rfl⟩ := ee
                exact resPure H (none_app rfl (Nat.le_refl _) (Nat.eq_of_beq_eq_true hn)) .nilSlice
              | false =>
                rw [hn] at ee; simp only [cond_false, Option.some.injEq, Prod.mk.injEq] at ee
                obtain ⟨rfl, rfl⟩ := ee
                have hn' := Nat.ne_of_beq_eq_false hn
                exact append_fresh hT H h0 h1 hu hre rx hsrc hroom (by omega) rfl
          · rename_i a
            cases hn : Nat.beq n 0 with
            | true =>
              rw [hn] at ee; simp only [cond_true, Option.some.injEq, Prod.mk.injEq] at ee
              obtain ⟨rfl, rfl⟩ := ee
              have hn' := Nat.eq_of_beq_eq_true hn
              cases rs with
              | slice hb' g1 g2 g3 => exact resPure H (none_app rfl (by omega) hn') (.slice hb' g1 g2 g3)
              | tight hb' => exact resPure H (none_app rfl (Nat.le_refl _) hn') (.tight hb')
            | false =>
              rw [hn] at ee; simp only [cond_false] at ee
              have hn' := Nat.ne_of_beq_eq_false hn
              cases rs with
              | tight hb' =>
                simp only [Option.some.injEq, Prod.mk.injEq] at ee
                obtain ⟨rfl, rfl⟩ := ee
                exact append_fresh hT H h0 h1 hu hre rx hsrc hroom (by omega) rfl
              | slice hb' g1 g2 g3 =>
                rename_i b β st off o cap
                dsimp only at ee
                cases hle : Nat.ble (len + n) kap with
                | true =>
                  have hle' := Nat.le_of_ble_eq_true hle
                  rw [hle] at ee; simp only [cond_true] at ee
                  split at ee
                  · rename_i h2 hw
                    simp only [Option.some.injEq, Prod.mk.injEq] at ee
                    obtain ⟨rfl, rfl⟩ := ee
                    obtain rfl : o = st + off := by rcases g3 with g3 | g3 <;> omega
                    obtain ⟨c, hc, hcl, hone, hstep⟩ := Step.write H hb' hw q3
                    have hnl : new'.length = n * k := by rw [← q3.length]; exact q1
                    rcases hcl with hcl | hcl
                    · obtain ⟨c', w2, r1, r2, r3, r4, r5⟩ := run_storeCells P new' 0 w c β (st + off + len * k) hc (by omega) hone
                      have S := hstep c' w2 r4 (fun j => by rw [r5]; simp only [Nat.add_zero, Nat.add_assoc]) r3 r2
                      refine resStep S (v' := .slice (some ⟨β, st + off, none⟩) (len + n) cap) ?_ (.slice hb' hle' g2 g3)
                      rw [run_append hT h0 h1 hu hre q2 hroom, if_pos (by omega)]
                      simp only [Sem.run_bind, q4, Result.andThen_ok, add_none]
                      rw [r1]
                      rfl
                    · subst hcl
                      have S := hstep c w rfl (fun j => by simp only [List.length_nil]; rw [if_neg (by omega)]) hc (Wrote.refl w β)
                      refine resStep S (v' := .slice (some ⟨β, st + off, none⟩) (len + n) cap) ?_ (.slice hb' hle' g2 g3)
                      rw [run_append hT h0 h1 hu hre q2 hroom, if_pos (by omega)]
                      simp only [Sem.run_bind, q4, Result.andThen_ok]
                      rfl
                  · cases ee
                | false =>
                  have hle' : ¬ (len + n ≤ kap) := fun h => by rw [Nat.ble_eq_true_of_le h] at hle; cases hle
                  rw [hle] at ee; simp only [cond_false] at ee
                  split at ee
                  · rename_i vs k' f v0 hobj
                    cases hcond : Nat.beq v0 (h.fam f).1 && Nat.beq k' k && Nat.blt 0 k && new.all scalarCell with
                    | false => rw [hcond] at ee; cases ee
                    | true =>
                      rw [hcond] at ee; simp only [cond_true] at ee
                      simp only [Bool.and_eq_true] at hcond
                      obtain ⟨⟨⟨hv0, hk'⟩, hkp⟩, hsc⟩ := hcond
                      have hv0 := Nat.eq_of_beq_eq_true hv0
                      have hk' := Nat.eq_of_beq_eq_true hk'
                      have hkp : 0 < k := Nat.blt_eq.mp hkp
                      subst hk'
                      split at ee
                      · rename_i old hold
                        simp only [Option.some.injEq, Prod.mk.injEq] at ee
                        obtain ⟨rfl, rfl⟩ := ee
                        have hkl := H.rowk b _ vs k' f v0 hb' hobj
                        obtain ⟨c, hc, hcl, hck, hcr⟩ := H.row b β st vs k' f v0 hb' hobj hv0
                        have holdl := (seg_val hold).2
                        have hnl : new'.length = n * k' := by rw [← q3.length]; exact q1
                        have hsl : sliceCells h b off (len * k') = some old := by
                          unfold sliceCells AHeap.cells
                          rw [hobj]; simp only [hv0, Nat.beq_refl, cond_true]
                          exact hold
                        have horel : VRels σ old ((c.toList.drop (st + off)).take (len * k')) := by
                          have h1 := (hcr.drop off).take (len * k')
                          rw [← (seg_val hold).1] at h1
                          have h2 : (((c.toList.drop st).take vs.length).drop off).take (len * k') = (c.toList.drop (st + off)).take (len * k') := by
                            rcases seg_eq hold with h3 | h3
                            · rw [List.drop_take, List.drop_drop, List.take_take, Nat.min_eq_left (by omega)]
                            · rw [h3]; simp
                          rw [h2] at h1; exact h1
                        -- which version the new row has
                        generalize hvv : (bif Nat.beq (h.fam f).2 b && Nat.beq (off + len * k') vs.length then v0 else v0 + 1) = v'
                        have hv' : (v' = v0 ∧ (h.fam f).2 = b ∧ off + len * k' = vs.length) ∨ v' = v0 + 1 := by
                          cases hcc : Nat.beq (h.fam f).2 b && Nat.beq (off + len * k') vs.length with
                          | true =>
                            rw [hcc] at hvv; simp only [Bool.and_eq_true] at hcc
                            exact .inl ⟨hvv.symm, Nat.eq_of_beq_eq_true hcc.1, Nat.eq_of_beq_eq_true hcc.2⟩
                          | false => rw [hcc] at hvv; exact .inr hvv.symm
                        have hv'' : (v' = v0 ∧ (h.fam f).2 = b) ∨ v' = v0 + 1 := hv'.imp (fun x => ⟨x.1, x.2.1⟩) id
                        by_cases hin : len + n ≤ cap
                        · -- in place
                          have ho : o = st + off ∧ o + cap * k' ≤ (σ.kl b).2 := by
                            rcases g3 with ⟨g3, g4⟩ | g3
                            · refine ⟨g3, ?_⟩
                              rcases g4 with g4 | g4
                              · omega
                              · rw [hkl] at g4; exact g4
                            · omega
                          obtain ⟨rfl, hext⟩ := ho
                          have hmul : (len + n) * k' ≤ cap * k' := Nat.mul_le_mul_right k' hin
                          rw [Nat.add_mul] at hmul
                          obtain ⟨c', w2, r1, r2, r3, r4, r5⟩ := run_storeCells P new' 0 w c β (st + off + len * k') hc (by omega) (q3.oneCell hsc)
                          have hsame : ∀ j, j < st + off + len * k' → c'[j]? = c[j]? := fun j hj => by rw [r5, if_neg (by omega)]
                          have hr : VRels σ (old ++ new) ((c'.toList.drop (st + off)).take (old ++ new).length) := by
                            have e1 : (c'.toList.drop (st + off)).take (old ++ new).length = (c'.toList.drop (st + off)).take (len * k') ++ (c'.toList.drop (st + off + len * k')).take (n * k') := by
                              rw [List.length_append, holdl, q1, List.take_add, List.drop_drop]
                            rw [e1]
                            refine VRels.append ?_ ?_
                            · rw [take_drop_congr (fun j h1 h2 => hsame j (by omega))]; exact horel
                            · have : (c'.toList.drop (st + off + len * k')).take (n * k') = new' := by
                                apply List.ext_getElem?
                                intro i
                                by_cases hi : i < n * k'
                                · rw [List.getElem?_take_of_lt hi, List.getElem?_drop, Array.getElem?_toList, r5, if_pos (by omega)]
                                  congr 1; omega
                                · rw [List.getElem?_eq_none (by simp; omega), List.getElem?_eq_none (by omega)]
                              rw [this]; exact q3
                          have S := Step.append H (r := old ++ new) (β1 := β) (s1 := st + off) (lim := c.size) hb' hobj hv0 hv'' r3 (by rw [List.length_append]; omega) r4 hr (by rw [r2.size]; exact Nat.le_refl _) (fun β' h1 _ => r2.other β' h1)
                            (.inl ⟨rfl, fun e => by rcases hv' with h' | h' <;> (rw [List.length_append]; omega)⟩)
                            (fun hvv b0 s0 vs0 k0 hb0 ho0 hle0 => by
                              obtain ⟨c0, hc0, hl0, hk0, hr0⟩ := H.row b0 β s0 vs0 k0 f v0 hb0 ho0 hv0
                              have := hc0.inj hc; subst this
                              refine ⟨c', r3, by omega, by omega, ?_⟩
                              rw [take_drop_congr (c := c0) (fun j h1 h2 => hsame j (by rcases hv' with h' | h' <;> omega))]; exact hr0)
                            r2.tape r2.os r2.output
                          refine resStep S (v' := .slice (some ⟨β, st + off, none⟩) (len + n) cap) ?_ (VRel.slice (Emb.ext_same _ _ _ _) (Nat.le_refl _) hin (.inl ⟨rfl, .inr (by rw [Emb.kl_same]; simp only; omega)⟩))
                          rw [run_append hT h0 h1 hu hre q2 hroom, if_pos hin]
                          simp only [Sem.run_bind, q4, Result.andThen_ok, add_none]
                          rw [r1]
                          rfl
                        · -- made anew
                          have S1 := drawn1_step H
                          obtain ⟨_, _, new2, p3, p4⟩ := source_rel P S1.rel rx hsrc
                          obtain ⟨a', cap', he', old2, p5, p6⟩ := slice_run (P := P) S1.rel (VRel.slice hb' g1 g2 g3) (k := k') (n := len) (Nat.le_refl _) (.inr rfl) hsl
                          injection he' with he1 he2 he3; injection he1 with he1; subst he1; subst he3
                          obtain ⟨c2, ncap, c21, c22, c23, c24⟩ := run_grow hT (need := len + n) (sLen := len) (sCap := cap) (s' := .slice (some ⟨β, o, none⟩) len cap) hre p5 p4
                            (by rw [← p6.length]; exact holdl) (by rw [← p3.length]; exact q1) rfl
                          have hlen2 : (old ++ new).length = (len + n) * k' := by rw [List.length_append, holdl, q1, Nat.add_mul]
                          have hnk : (len + n) * k' ≤ c2.size := by rw [c22]; exact Nat.mul_le_mul_right k' c21
                          have hblk : RowAt ((drawn1 w).alloc (.cells c2 e)) w.heap.size c2 := ⟨e, (0, 0), by show (w.heap.push (Obj.cells c2 e))[w.heap.size]? = _; simp, .inl (Nat.le_refl _)⟩
                          have hold' : ∀ β', β' < w.heap.size → ((drawn1 w).alloc (.cells c2 e)).heap[β']? = w.heap[β']? := fun β' hβ' => by
                            show (w.heap.push (Obj.cells c2 e))[β']? = _
                            rw [Array.getElem?_push, if_neg (by omega)]
                          have S2 := Step.append S1.rel (w2 := (drawn1 w).alloc (.cells c2 e)) (r := old ++ new) (β1 := w.heap.size) (s1 := 0) (lim := c2.size) hb' hobj hv0 hv'' hblk (by omega) rfl
                            (by rw [List.drop_zero, hlen2, c23]; exact p6.append p3) (by show w.heap.size ≤ (w.heap.push _).size; simp) (fun β' _ h2 => hold' β' h2)
                            (.inr ⟨rfl, by show (w.heap.push _).size = _; simp; rfl⟩)
                            (fun hvv b0 s0 vs0 k0 hb0 ho0 hle0 => by
                              obtain ⟨c0, hc0, hl0, hk0, hr0⟩ := H.row b0 β s0 vs0 k0 f v0 hb0 ho0 hv0
                              exact ⟨c0, hc0.congr (hold' β hc0.lt), hl0, hk0, hr0⟩) rfl rfl rfl
                          refine resStep (S1.trans S2) (v' := .slice (some ⟨w.heap.size, 0, none⟩) (len + n) ncap) ?_ (VRel.slice (Emb.ext_same _ _ _ _) (Nat.le_refl _) c21 (.inl ⟨rfl, .inr (by rw [Emb.kl_same]; simp only; omega)⟩))
                          rw [run_append hT h0 h1 hu hre q2 hroom, if_neg hin]
                          exact c24
                      · cases ee
                  · cases ee
      · cases ee
    · cases ee
  · cases ee
end
end Go.AM

import Derived.Test.YtjiphiegpfleeaaGreatDoorRAmOp4
namespace Go.AM

section
variable {P : Program} {T : Tab} {σ : Emb} {h h' : AHeap} {w : World}

theorem run_bound {v v' : Value} {y n : Nat} (rv : VRel σ v v') (e : bound v y = some n) (y' : Nat) (hy : y ≤ y') (code : BoundsCode) :
    (Instr.sliceBound v' y' code).run P w = .ok n w ∧ n ≤ y := by
  unfold bound at e
  split at e
  · rename_i k i
    cases hc : decide (0 ≤ i) && decide (i ≤ y) with
    | false => rw [hc] at e; cases e
    | true =>
      rw [hc] at e; simp only [cond_true, Option.some.injEq] at e; subst e
      simp only [Bool.and_eq_true, decide_eq_true_eq] at hc
      cases rv
      have h1 : 0 ≤ i ∧ i ≤ (y' : Int) := by omega
      refine ⟨?_, by omega⟩
      simp only [Instr.sliceBound, asIntOf, Sem.run_bind, Sem.run_pure, Result.andThen_ok, h1, and_self, if_true]
  · cases e

def ORel (σ : Emb) : Option Value → Option Value → Prop
  | none, none => True
  | some a, some b => VRel σ a b
  | _, _ => False

theorem bounds_run {lo hi lo' hi' : Option Value} {isSlice : Bool} {len kap cap h0 l : Nat} (rl : ORel σ lo lo') (rh : ORel σ hi hi') (hlk : len ≤ kap) (hk : kap ≤ cap)
    (eh : obound hi kap len = some h0) (el : obound lo h0 0 = some l) :
    (Instr.sliceBounds isSlice len cap lo' hi' none).run P w = .ok (l, h0, cap) w ∧ l ≤ h0 ∧ h0 ≤ kap := by
  have hh : ∀ code, (match hi' with | some v => Instr.sliceBound v cap code | none => pure len : Sem Nat).run P w = .ok h0 w ∧ h0 ≤ kap := by
    intro code
    cases hi with
    | none =>
      cases hi' with
      | none => simp only [obound, Option.some.injEq] at eh; subst eh; exact ⟨rfl, hlk⟩
      | some _ => exact rh.elim
    | some a =>
      cases hi' with
      | none => exact rh.elim
      | some b => exact run_bound rh eh cap hk code
  have hl : ∀ code, (match lo' with | some v => Instr.sliceBound v h0 code | none => pure 0 : Sem Nat).run P w = .ok l w ∧ l ≤ h0 := by
    intro code
    cases lo with
    | none =>
      cases lo' with
      | none => simp only [obound, Option.some.injEq] at el; subst el; exact ⟨rfl, Nat.zero_le _⟩
      | some _ => exact rl.elim
    | some a =>
      cases lo' with
      | none => exact rl.elim
      | some b => exact run_bound rl el h0 (Nat.le_refl _) code
  refine ⟨?_, (hl .index).2, (hh .index).2⟩
  unfold Instr.sliceBounds
  cases hi' with
  | none =>
    have := (hh .index).1
    simp only [Sem.run_pure, Result.ok.injEq, and_true] at this
    subst this
    cases lo' with
    | none => have := (hl .index).1; simp only [Sem.run_pure, Result.ok.injEq, and_true] at this; subst this; rfl
    | some v =>
      simp only [Sem.run_bind, Sem.run_pure, Result.andThen_ok, Option.isSome, Bool.false_eq_true, if_false]
      rw [(hl .sliceB).1]; rfl
  | some u =>
    have q := (hh (if isSlice then BoundsCode.sliceAcap else BoundsCode.sliceAlen)).1
    simp only at q
    cases lo' with
    | none =>
      have := (hl .index).1; simp only [Sem.run_pure, Result.ok.injEq, and_true] at this; subst this
      simp only [Sem.run_bind, Sem.run_pure, Result.andThen_ok, q]
    | some v =>
      simp only [Sem.run_bind, Sem.run_pure, Result.andThen_ok, Option.isSome, Bool.false_eq_true, if_false, q]
      rw [(hl .sliceB).1]; rfl

theorem bounds3_run {lo lo' : Option Value} {hv hv' mv mv' : Value} {len kap cap m h0 l : Nat} (rl : ORel σ lo lo') (rh : VRel σ hv hv') (rm : VRel σ mv mv') (hk : kap ≤ cap)
    (em : bound mv kap = some m) (eh : bound hv m = some h0) (el : obound lo h0 0 = some l) :
    (Instr.sliceBounds true len cap lo' (some hv') (some mv')).run P w = .ok (l, h0, m) w ∧ l ≤ h0 ∧ h0 ≤ m ∧ m ≤ kap := by
  obtain ⟨qm, hm⟩ := run_bound (P := P) (w := w) rm em cap hk .slice3Acap
  obtain ⟨qh, hh⟩ := run_bound (P := P) (w := w) rh eh m (Nat.le_refl _) .slice3B
  have hl : (match lo' with | some v => Instr.sliceBound v h0 .slice3C | none => pure 0 : Sem Nat).run P w = .ok l w ∧ l ≤ h0 := by
    cases lo with
    | none =>
      cases lo' with
      | none => simp only [obound, Option.some.injEq] at el; subst el; exact ⟨rfl, Nat.zero_le _⟩
      | some _ => exact rl.elim
    | some a =>
      cases lo' with
      | none => exact rl.elim
      | some b => exact run_bound rl el h0 (Nat.le_refl _) _
  refine ⟨?_, hl.2, hh, hm⟩
  unfold Instr.sliceBounds
  cases lo' with
  | none =>
    have := hl.1; simp only [Sem.run_pure, Result.ok.injEq, and_true] at this; subst this
    simp only [Sem.run_bind, Sem.run_pure, Result.andThen_ok, if_true, qm, qh]
  | some v =>
    simp only [Sem.run_bind, Sem.run_pure, Result.andThen_ok, if_true, qm, qh, Option.isSome]
    rw [hl.1]; rfl

theorem fitsK_kl (H : HRel σ h w) {b k : Nat} {x : Nat × Nat} (hb : σ b = some x) (e : fitsK h b k = true) : (σ.kl b).1 = 0 ∨ (σ.kl b).1 = k := by
  unfold fitsK at e
  split at e
  · rename_i vs k' f v ho
    right; rw [H.rowk b x vs k' f v hb ho]; exact Nat.eq_of_beq_eq_true e
  · rename_i vs ho
    left; exact H.vark b x vs hb ho
  · cases e
theorem isVar_kl (H : HRel σ h w) {b : Nat} {x : Nat × Nat} (hb : σ b = some x) (e : isVar h b = true) : (σ.kl b).1 = 0 := by
  unfold isVar at e
  split at e
  · rename_i vs ho; exact H.vark b x vs hb ho
  · cases e

/-- the slice that a slice expression gives -/
theorem slice_val {b β s off o cap l h0 m m' k : Nat} (hb : σ b = some (β, s)) (h3 : (o = s + off ∧ ((σ.kl b).1 = 0 ∨ o + cap * (σ.kl b).1 ≤ (σ.kl b).2)) ∨ cap = 0)
    (hk : (σ.kl b).1 = 0 ∨ (σ.kl b).1 = k) (hl : l ≤ h0) (hh : h0 ≤ m) (hm : m ≤ m') (hm' : m' ≤ cap) :
    VRel σ (.slice (some ⟨b, off + l * k, none⟩) (h0 - l) (m - l)) (.slice (if m' = l then some ⟨β, o, none⟩ else (some (⟨β, o, none⟩ : Addr)).map (·.add (l * k))) (h0 - l) (m' - l)) := by
  by_cases e : m' = l
  · rw [if_pos e]
    exact VRel.slice hb (by omega) (by omega) (.inr (by omega))
  · rw [if_neg e]
    simp only [Option.map_some, add_none]
    refine VRel.slice hb (by omega) (by omega) (.inl ?_)
    rcases h3 with ⟨rfl, h3⟩ | h3
    · refine ⟨by omega, ?_⟩
      rcases hk with hk | hk
      · exact .inl hk
      · rcases h3 with h3 | h3
        · exact .inl h3
        · right
          rw [hk] at h3 ⊢
          have : l * k + (m' - l) * k = m' * k := by rw [← Nat.add_mul]; congr 1; omega
          have : m' * k ≤ cap * k := Nat.mul_le_mul_right k hm'
          omega
    · omega

theorem bytes_slice (s : ByteArray) (l n : Nat) (hln : l ≤ n) (hn : n ≤ s.size) : strOf (((strBytes s).drop l).take (n - l)) = .string (s.extract l n) := by
  unfold strOf strBytes
  congr 1
  apply ByteArray.ext
  apply Array.ext'
  simp [ByteArray.data_extract, Array.toList_extract, List.extract_eq_take_drop]

theorem snd_slice (hT : T.Ok P) (H : HRel σ h w) {t : Nat} {x x' v : Value} {lo hi mx lo' hi' mx' : Option Value} (rx : VRel σ x x') (rl : ORel σ lo lo') (rh : ORel σ hi hi') (rm : ORel σ mx mx')
    (e : sliceA T h t x lo hi mx = some v) : OpRes P σ h w (do pure (.value (← Instr.sliceAt t x' lo' hi' mx'))) (.value v) h := by
  unfold sliceA at e
  split at e
  · -- a string
    rename_i s hu
    cases rx
    split at e
    · cases e
    · cases mx' with
      | some _ => exact rm.elim
      | none =>
        split at e
        · rename_i h0 eh
          split at e
          · rename_i l el
            injection e with e; subst e
            obtain ⟨q, q1, q2⟩ := bounds_run (P := P) (w := w) (isSlice := false) rl rh (Nat.le_refl _) (Nat.le_refl _) eh el
            rw [bytes_slice s l h0 q1 q2]
            refine resPure H ?_ (.string _)
            simp only [Instr.sliceAt, Sem.run_bind, run_und w (hT.und _ _ hu), Result.andThen_ok, Instr.slice, Option.isSome, Bool.false_eq_true, if_false, q, Sem.run_pure]
          · cases e
        · cases e
  · -- a slice
    rename_i el a len kap hu
    split at e
    · cases mx' with
      | some _ => exact rm.elim
      | none =>
        split at e
        · rename_i h0 eh
          split at e
          · rename_i l k el' hk
            cases rx with
            | nilSlice =>
              injection e with e; subst e
              obtain ⟨q, q1, q2⟩ := bounds_run (P := P) (w := w) (isSlice := true) rl rh (Nat.le_refl _) (Nat.le_refl _) eh el'
              obtain rfl : h0 = 0 := by omega
              obtain rfl : l = 0 := by omega
              refine resPure H ?_ .nilSlice
              simp only [Instr.sliceAt, Sem.run_bind, run_und w (hT.und _ _ hu), Result.andThen_ok, Instr.slice, q, run_size hT w hk, Sem.run_pure]
              rfl
            | tight hb =>
              rename_i b β s off o
              injection e with e; subst e
              obtain ⟨q, q1, q2⟩ := bounds_run (P := P) (w := w) (isSlice := true) rl rh (Nat.le_refl _) (Nat.le_refl _) eh el'
              obtain rfl : h0 = 0 := by omega
              obtain rfl : l = 0 := by omega
              refine resPure H (v' := .slice (some ⟨β, o, none⟩) 0 0) ?_ (.tight hb)
              simp only [Instr.sliceAt, Sem.run_bind, run_und w (hT.und _ _ hu), Result.andThen_ok, Instr.slice, q, run_size hT w hk, Sem.run_pure]
              rfl
            | slice hb h1 h2 h3 =>
              rename_i b β s off o cap
              dsimp only at e
              cases hf : fitsK h b k with
              | false => rw [hf] at e; cases e
              | true =>
                rw [hf] at e; simp only [cond_true, Option.some.injEq] at e; subst e
                obtain ⟨q, q1, q2⟩ := bounds_run (P := P) (w := w) (isSlice := true) rl rh h1 h2 eh el'
                refine resPure H ?_ (slice_val hb h3 (fitsK_kl H hb hf) q1 q2 h2 (Nat.le_refl _))
                simp only [Instr.sliceAt, Sem.run_bind, run_und w (hT.und _ _ hu), Result.andThen_ok, Instr.slice, q, run_size hT w hk, Sem.run_pure]
          · cases e
        · cases e
    · rename_i mv
      cases mx' with
      | none => exact rm.elim
      | some mv' =>
        split at e
        · rename_i m hv em
          cases hi' with
          | none => exact rh.elim
          | some hv' =>
            split at e
            · rename_i h0 eh
              split at e
              · rename_i l k el' hk
                cases rx with
                | nilSlice =>
                  injection e with e; subst e
                  obtain ⟨q, q1, q2, q3⟩ := bounds3_run (P := P) (w := w) (len := 0) rl rh rm (Nat.le_refl _) em eh el'
                  obtain rfl : m = 0 := by omega
                  obtain rfl : h0 = 0 := by omega
                  obtain rfl : l = 0 := by omega
                  refine resPure H ?_ .nilSlice
                  simp only [Instr.sliceAt, Sem.run_bind, run_und w (hT.und _ _ hu), Result.andThen_ok, Instr.slice, q, run_size hT w hk, Sem.run_pure]
                  rfl
                | tight hb =>
                  rename_i b β s off o
                  injection e with e; subst e
                  obtain ⟨q, q1, q2, q3⟩ := bounds3_run (P := P) (w := w) (len := 0) rl rh rm (Nat.le_refl _) em eh el'
                  obtain rfl : m = 0 := by omega
                  obtain rfl : h0 = 0 := by omega
                  obtain rfl : l = 0 := by omega
                  refine resPure H (v' := .slice (some ⟨β, o, none⟩) 0 0) ?_ (.tight hb)
                  simp only [Instr.sliceAt, Sem.run_bind, run_und w (hT.und _ _ hu), Result.andThen_ok, Instr.slice, q, run_size hT w hk, Sem.run_pure]
                  rfl
                | slice hb h1 h2 h3 =>
                  rename_i b β s off o cap
                  dsimp only at e
                  obtain ⟨q, q1, q2, q3⟩ := bounds3_run (P := P) (w := w) (len := len) rl rh rm h2 em eh el'
                  cases hm0 : Nat.beq m 0 with
                  | true =>
                    rw [hm0] at e; simp only [cond_true, Option.some.injEq] at e; subst e
                    have := Nat.eq_of_beq_eq_true hm0
                    subst this
                    obtain rfl : h0 = 0 := by omega
                    obtain rfl : l = 0 := by omega
                    refine resPure H (v' := .slice (some ⟨β, o, none⟩) 0 0) ?_ (.tight hb)
                    simp only [Instr.sliceAt, Sem.run_bind, run_und w (hT.und _ _ hu), Result.andThen_ok, Instr.slice, q, run_size hT w hk, Sem.run_pure]
                    rfl
                  | false =>
                    rw [hm0] at e; simp only [cond_false] at e
                    cases hf : fitsK h b k with
                    | false => rw [hf] at e; cases e
                    | true =>
                      rw [hf] at e; simp only [cond_true, Option.some.injEq] at e; subst e
                      refine resPure H ?_ (slice_val hb h3 (fitsK_kl H hb hf) q1 q2 (Nat.le_refl _) (by omega))
                      simp only [Instr.sliceAt, Sem.run_bind, run_und w (hT.und _ _ hu), Result.andThen_ok, Instr.slice, q, run_size hT w hk, Sem.run_pure]
              · cases e
            · cases e
        · cases e
  · -- an array
    rename_i n el a hu
    split at e
    · cases mx' with
      | some _ => exact rm.elim
      | none =>
        split at e
        · rename_i h0 eh
          split at e
          · rename_i l k el' hk
            cases hf : isVar h a.block with
            | false => rw [hf] at e; cases e
            | true =>
              rw [hf] at e; simp only [cond_true, Option.some.injEq] at e; subst e
              cases rx with
              | ptr off hb =>
                rename_i b β s
                obtain ⟨q, q1, q2⟩ := bounds_run (P := P) (w := w) (isSlice := false) rl rh (Nat.le_refl _) (Nat.le_refl _) eh el'
                refine resPure H ?_ (slice_val (o := s + off) (cap := n) (m' := n) hb (.inl ⟨rfl, .inl (isVar_kl H hb hf)⟩) (.inl (isVar_kl H hb hf)) q1 q2 (Nat.le_refl _) (Nat.le_refl _))
                simp only [Instr.sliceAt, Instr.sureAddr, Sem.run_bind, run_und w (hT.und _ _ hu), Result.andThen_ok, q, run_size hT w hk, Sem.run_pure]
                congr 2
                by_cases hnl : n = l
                · rw [if_pos hnl, if_pos hnl]
                · rw [if_neg hnl, if_neg hnl]; rfl
          · cases e
        · cases e
    · cases e
  · cases e
end
end Go.AM
